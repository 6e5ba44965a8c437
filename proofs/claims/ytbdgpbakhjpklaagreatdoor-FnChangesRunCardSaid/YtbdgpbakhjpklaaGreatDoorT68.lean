/- A tree and changes of it are drawn. -/
import Derived.Test.YtbdgpbakhjpklaaGreatDoorT65
import Derived.Test.YtbdgpbakhjpklaaGreatDoorGG
namespace Go.Sf
open Go Go.RowKit Go.Proofs
def DrewRun (w : World) (e : Ending) (w' : World) : Prop := ∃ va vc la cs, e = .returned (.tuple #[va, vc]) ∧ Its w.heap.size w' va la ∧ Chs w.heap.size w' vc cs ∧ la.length ≤ 9 ∧ cs.length ≤ 1000 ∧ Ext w w'
theorem chs_R {rb B : Nat} {w w' : World} {v : Value} {l : List Ch} {q : Int} (h : Chs B w v l) (hR : Rd rb w q) (e : ExtR rb w w') : Chs B w' v l := h.keepT (hR.keepsT e) (by decide) (by decide)
/-- a kind is set -/
theorem chs_kind {w : World} {b o c i : Nat} {B : Nat} {L : List Ch} {x : Ch} {k : Int} (h : Chs B w (.slice (some ⟨b, o, none⟩) L.length c) L) (hx : L[i]? = some x) (hk : inI k) :
    Chs B (w.setCell ⟨b, o + i * 4, none⟩ (.int .i64 k)) (.slice (some ⟨b, o, none⟩) L.length c) (L.set i ⟨k, x.item⟩) := by
  obtain ⟨A, c', e, hA⟩ := h
  cases e
  refine ⟨some ⟨b, o, none⟩, c, by simp, SlIn.upd hA hx fun cs hb he => ?_⟩
  have hKT : KeepsT 95 w (w.setCell ⟨b, o + i * 4, none⟩ (.int .i64 k)) := KeepsT.set (i := o + i * 4) hb (.int .i64 k) rfl
  refine ⟨_, hb.set_ (o + i * 4) (.int .i64 k), ?_, fun j z hj hz hez => ?_⟩
  · obtain ⟨h0, g0, h1, g1, h2, u3, h3, g3⟩ := he
    have hsz : o + i * 4 < cs.size := (Array.getElem?_eq_some_iff.1 h0).1
    refine ⟨by rw [Array.getElem?_setIfInBounds, if_pos rfl, if_pos hsz], hk, ?_, g1, ?_, u3, ?_, g3.keepT hKT (by decide)⟩
    · rw [Array.getElem?_setIfInBounds, if_neg (by omega)]; exact h1
    · rw [Array.getElem?_setIfInBounds, if_neg (by omega)]; exact h2
    · rw [Array.getElem?_setIfInBounds, if_neg (by omega)]; exact h3
  · obtain ⟨h0, g0, h1, g1, h2, u3, h3, g3⟩ := hez
    refine ⟨?_, g0, ?_, g1, ?_, u3, ?_, g3.keepT hKT (by decide)⟩
    · rw [Array.getElem?_setIfInBounds, if_neg (by omega)]; exact h0
    · rw [Array.getElem?_setIfInBounds, if_neg (by omega)]; exact h1
    · rw [Array.getElem?_setIfInBounds, if_neg (by omega)]; exact h2
    · rw [Array.getElem?_setIfInBounds, if_neg (by omega)]; exact h3
set_option maxRecDepth 4000 in
set_option maxHeartbeats 2000000 in
theorem DrawChangesRun_c {v : Value} {xs : List Int} (w : World) (h : Bys w v xs) : Calls Tryz.prog 37 #[v] w (DrewRun w) := by
  go_enter Tryz.func37, Tryz.ntmps37
  go_wp2_with fail
  refine (l6Open_c w h).mono ?_
  rintro e w1 ⟨rb, rfl, hrb, hrl, hR, he1⟩
  have HR := Lib.hid hR
  clear hR h
  go_wp2_with fail
  refine (l92Two_c HR.out (by omega)).mono ?_
  rintro e w2 ⟨va, vb, la, lb, q', rfl, hIa, hIb, hla, hlb, hR2, hq1, hq2, he2⟩
  have HIa : Hid (Its w.heap.size w2 va la) := Lib.hid (hIa.keep he1.size (fun _ _ _ => rfl))
  have HIb : Hid (Its w.heap.size w2 vb lb) := Lib.hid (hIb.keep he1.size (fun _ _ _ => rfl))
  have HR2 := Lib.hid hR2
  have HE : Hid (Ext w w2) := Lib.hid (he2.ext he1 hrb)
  have hrl2 := Nat.lt_of_lt_of_le hrl he2.size
  clear hIa hIb he1 he2 hR2
  go_wp2_with fail
  refine (specChangesOf_c w2 HIa.out HIb.out (by unfold lim; omega)).mono ?_
  rintro e w3 ⟨v3, rfl, ⟨u3, rfl, hC3⟩, he3⟩
  have HE3 := Lib.hid (HE.out.trans he3)
  have HIa3 := Lib.hid (HIa.out.ext he3)
  have HR3 := Lib.hid (HR2.out.ext he3)
  have HC3 : Hid (Chs w2.heap.size w3 u3 ((chgOf la lb).getD [])) := Lib.hid hC3
  have hlow := HE.out.size
  have hrb3 : rb < w2.heap.size := hrl2
  clear hC3 he3
  cases hch : chgOf la lb with
  | none =>
    simp only [hch, Option.isSome_none, Option.getD_none] at *
    have hbk := Blk.new w3 95 #[.int .i64 1, .string ⟨#[100]⟩, .bool false, .slice none 0 0]
    have hcs : Chs w.heap.size (w3.alloc (.cells #[.int .i64 1, .string ⟨#[100]⟩, .bool false, .slice none 0 0] 95)) (.slice (some ⟨w3.heap.size, 0, none⟩) 1 1) [⟨1, ⟨⟨#[100]⟩, false, []⟩⟩] := by
      refine ⟨_, 1, rfl, by simp, ⟨by unfold maxLen; omega, fun e => by cases e⟩, by unfold lim; simp, fun k x hx => ?_⟩
      cases k with
      | zero =>
        simp only [List.getElem?_cons_zero, Option.some.injEq] at hx
        subst hx
        exact ⟨_, 0, _, rfl, HE3.out.size, hbk, rfl, (by show inI 1; unfold inI; omega), rfl, by unfold lim; decide, rfl, .slice none 0 0, rfl, SlOf.nil _ _ _ _ _⟩
      | succ k => simp at hx
    have HCs := Lib.hid hcs
    clear hcs hbk
    go_wp2
    go_ret2
    exact ⟨_, _, la, _, rfl, HIa3.out.ext (by (repeat' (first | exact Ext.refl _ | assumption | refine Ext.alloc ?_ _ | refine Ext.drew ?_ | refine Ext.drewN ?_ _))), HCs.out, hla, by simp, HE3.out.alloc _⟩
  | some L =>
    have hL := chgOf_some hch
    simp only [hch, Option.isSome_some, Option.getD_some] at *
    obtain ⟨-, -, rfl⟩ := hL
    have hcl := chgs_len la lb
    generalize chg la lb = L at *
    obtain ⟨A, c, e, -⟩ := HC3.out
    subst e
    clear hch
    cases L with
    | nil =>
      go_wp2
      go_ret2
      exact ⟨_, _, la, [], rfl, HIa3.out, HC3.out.keep HE.out.size (fun _ _ _ => rfl), hla, by simp, HE3.out⟩
    | cons y r =>
      have hex : ∃ n, (y :: r).length = n := ⟨_, rfl⟩
      obtain ⟨n, hn⟩ := hex
      have hn1 : 1 ≤ n := by rw [← hn]; simp
      rw [hn] at hcl HC3 ⊢
      have Hn := Lib.hid hn
      clear hn
      generalize (y :: r) = L at *
      have hn0 : (0 : Int) < (n : Int) := by omega
      go_wp2_with fail
      refine (pick_c 4 HR3.out (by omega) (by omega)).mono ?_
      rintro e w4 ⟨v4, rfl, hv0, hv4, -, hR4, he4⟩
      have HR4 := Lib.hid hR4
      have HC4 := Lib.hid (chs_R HC3.out HR3.out he4)
      have HIa4 := Lib.hid (its_R HIa3.out HR3.out he4)
      have HE4 := Lib.hid (he4.ext HE3.out hrb)
      clear hR4 he4
      by_cases hv : v4 = 0
      · subst hv
        go_wp2_with fail
        refine (pick_c n HR4.out (by omega) (by omega)).mono ?_
        rintro e w5 ⟨i, rfl, hi0, hi1, -, hR5, he5⟩
        have HR5 := Lib.hid hR5
        have HC5 := Lib.hid (chs_R HC4.out HR4.out he5)
        have HIa5 := Lib.hid (its_R HIa4.out HR4.out he5)
        have HE5 := Lib.hid (he5.ext HE4.out hrb)
        have hi2 := hi1 (by omega)
        clear hR5 he5
        go_wp2_with fail
        refine (pick_c 5 HR5.out (by omega) (by omega)).mono ?_
        rintro e w6 ⟨k, rfl, hk0, hk1, -, hR6, he6⟩
        have HC6 := Lib.hid (chs_R HC5.out HR5.out he6)
        have HIa6 := Lib.hid (its_R HIa5.out HR5.out he6)
        have HE6 := Lib.hid (he6.ext HE5.out hrb)
        have hk2 := hk1 (by omega)
        clear hR6 he6 hi1 hk1
        obtain ⟨i, rfl⟩ := Int.eq_ofNat_of_zero_le hi0
        have hin : i < n := by omega
        obtain ⟨x, hx⟩ := get_of_lt (l := L) (k := i) (by rw [Hn.out]; exact hin)
        obtain ⟨A', c', e6, hS6⟩ := HC6.out
        have e6' := e6
        injection e6 with q1 q2 q3
        clear q2
        subst q1; subst q3
        obtain ⟨b, o, cs, rfl, hB, hb, hel⟩ := hS6.2.2.2 i x hx
        have hcell := hb.at_ hel.1 w6 (Ext.refl _)
        have hfr := hb.frozen (o + i * 4)
        have HB := Lib.hid hb
        have HC7 : Hid (Chs w2.heap.size (w6.setCell ⟨b, o + i * 4, none⟩ (.int .i64 k)) (.slice (some ⟨b, o, none⟩) n c) (L.set i ⟨k, x.item⟩)) := Lib.hid (by
          have := chs_kind (k := k) (by rw [Hn.out]; exact HC6.out) hx (by unfold inI; omega)
          rwa [Hn.out] at this)
        have HF : Hid (Its w.heap.size (w6.setCell ⟨b, o + i * 4, none⟩ (.int .i64 k)) va la ∧ Ext w (w6.setCell ⟨b, o + i * 4, none⟩ (.int .i64 k))) := Lib.hid
          ⟨HIa6.out.keepT (KeepsT.set (i := o + i * 4) hb (.int .i64 k) rfl) (by decide) (by decide), HE6.out.setCell (p := ⟨b, o + i * 4, none⟩) (Nat.le_trans HE.out.size hB) _⟩
        clear hb hel hS6 e6' hx
        go_wp2
        go_ret2
        exact ⟨_, _, la, _, rfl, HF.out.1, HC7.out.keep HE.out.size (fun _ _ _ => rfl), hla, by rw [List.length_set, Hn.out]; omega, HF.out.2⟩
      · go_wp2
        go_ret2
        exact ⟨_, _, la, L, rfl, HIa4.out, HC4.out.keep HE.out.size (fun _ _ _ => rfl), hla, by rw [Hn.out]; omega, HE4.out⟩
end Go.Sf
