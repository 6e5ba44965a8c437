/- Two trees are drawn. -/
import Derived.Test.YtfpkllihfcgmaaaDoorT24
namespace Go.Sf
open Go Go.RowKit Go.Proofs
/-- an item's blocks are exchanged in place -/
theorem SlIn.setIds {B : Nat} {W : World} {g o c i : Nat} {l : List It} {x : It} {u : Value} {ids : List Int} (h : SlIn B 35 3 (EIt B) W (some ⟨g, o, none⟩) c l) (hx : l[i]? = some x) (hu : Ints B W u ids) :
    SlIn B 35 3 (EIt B) (W.setCell ⟨g, o + i * 3 + 2, none⟩ u) (some ⟨g, o, none⟩) c (l.set i ⟨x.path, x.dir, ids⟩) ∧ B ≤ g := by
  obtain ⟨h1, h2, h3, h4⟩ := h
  obtain ⟨b0, o0, cs0, e1, e2, e3, e4⟩ := h4 i x hx
  simp only [Option.some.injEq, Addr.mk.injEq, and_true] at e1
  obtain ⟨rfl, rfl⟩ := e1
  have hk := KeepsT.set (i := o + i * 3 + 2) e3 u rfl
  refine ⟨⟨by simpa using h1, h2, by simpa using h3, fun k y hy => ?_⟩, e2⟩
  have hb := e3.set_ (o + i * 3 + 2) u
  by_cases hki : i = k
  · subst hki
    rw [List.getElem?_set_self (lt_of_get hx)] at hy
    obtain rfl := (Option.some.inj hy)
    obtain ⟨a0, a1, a2, u2, a3, a4⟩ := e4
    refine ⟨g, o, _, rfl, e2, hb, ?_, a1, ?_, u, ?_, hu.keepT hk (by decide)⟩
    · rw [Array.getElem?_setIfInBounds_ne (by omega)]; exact a0
    · rw [Array.getElem?_setIfInBounds_ne (by omega)]; exact a2
    · rw [Array.getElem?_setIfInBounds_self_of_lt (Array.getElem?_eq_some_iff.1 a3).1]
  · rw [List.getElem?_set_ne hki] at hy
    obtain ⟨b1, o1, cs1, f1, f2, f3, f4⟩ := h4 k y hy
    simp only [Option.some.injEq, Addr.mk.injEq, and_true] at f1
    obtain ⟨rfl, rfl⟩ := f1
    have hcs : cs1 = cs0 := by
      unfold Blk at e3 f3
      rw [e3] at f3
      simp only [Option.some.injEq, Obj.cells.injEq] at f3
      exact f3.1.symm
    subst hcs
    obtain ⟨a0, a1, a2, u2, a3, a4⟩ := f4
    refine ⟨g, o, _, rfl, e2, hb, ?_, a1, ?_, u2, ?_, a4.keepT hk (by decide)⟩
    · rw [Array.getElem?_setIfInBounds_ne (by omega)]; exact a0
    · rw [Array.getElem?_setIfInBounds_ne (by omega)]; exact a2
    · rw [Array.getElem?_setIfInBounds_ne (by omega)]; exact a3
theorem Its.blk {B : Nat} {w : World} {A : Option Addr} {c : Nat} {l : List It} (h : SlIn B 35 3 (EIt B) w A c l) {k : Nat} {x : It} (hx : l[k]? = some x) :
    ∃ g o u, A = some ⟨g, o, none⟩ ∧ (∀ W, Ext w W → W.cell? ⟨g, o + k * 3 + 2, none⟩ = some u) ∧ (∀ W, Ext w W → W.frozen? ⟨g, o + k * 3 + 2, none⟩ = false) := by
  obtain ⟨b, o, cs, rfl, hb, hB, h0, g0, h1, ⟨u2, h2, g2⟩⟩ := h.2.2.2 k x hx
  exact ⟨b, o, u2, rfl, hB.at_ h2, fun W e => (hB.ext e).frozen _⟩
/-- what a drawing of two trees leaves -/
def DrewTT (rb : Nat) (w : World) (q : Int) (e : Ending) (w' : World) : Prop :=
  ∃ va vb la lb q', e = .returned (.tuple #[va, vb]) ∧ Its w.heap.size w' va la ∧ Its w.heap.size w' vb lb ∧ la.length ≤ 9 ∧ lb.length ≤ 9 ∧ Rd rb w' q' ∧ q ≤ q' ∧ q' ≤ q + 300 ∧ ExtR rb w w'
theorem its_R {rb B : Nat} {w w' : World} {v : Value} {l : List It} {q : Int} (h : Its B w v l) (hR : Rd rb w q) (e : ExtR rb w w') : Its B w' v l := h.keepT (hR.keepsT e) (by decide) (by decide)
def TwoRel (rb : Nat) (wa : World) (q : Int) (v i : Value) (wr : World) : Prop :=
  ∃ (z : Int) (l : List It) (q' : Int), i = .int .i64 z ∧ -1 ≤ z ∧ z < l.length ∧ l.length ≤ 9 ∧ Its wa.heap.size wr v l ∧ Rd rb wr q' ∧ q ≤ q' ∧ q' ≤ q + 2 * (8 - z) ∧ ExtR rb wa wr
set_option maxRecDepth 4000 in
set_option maxHeartbeats 4000000 in
theorem l92Two_c {rb : Nat} {w : World} {q : Int} (h : Rd rb w q) (hq : q ≤ 10000000000) : Calls Tryd.prog 23 #[.pointer (some ⟨rb, 0, none⟩)] w (DrewTT rb w q) := by
  have hrb := h.lt
  have H := Lib.hid h
  clear h
  go_enter Tryd.func23, Tryd.ntmps23
  go_wp2_with fail
  refine (l91Tree_c H.out (by omega) hrb).mono ?_
  rintro e w1 ⟨va, la, q1, rfl, hOa, hla, hR1, hq1, hq2, he1⟩
  have HOa := Lib.hid hOa
  have HR1 := Lib.hid hR1
  have HE1 := Lib.hid he1
  clear hOa hR1 he1
  go_wp2_with fail
  refine (pick_c 3 HR1.out (by omega) (by omega)).mono ?_
  rintro e w2 ⟨v, rfl, hv0, hv3, -, hR2, he2⟩
  have HR2 := Lib.hid hR2
  have HIa : Hid (Its w.heap.size w2 va la) := Lib.hid (its_R (HOa.out.sl (EIt_ok _) (Nat.le_refl _) (by unfold lim; omega)) HR1.out he2)
  have HE2 := Lib.hid (HE1.out.trans he2)
  clear hR2 he2 HOa
  by_cases hv : v = 0
  · subst hv
    go_wp2_with fail
    refine (l91Tree_c HR2.out (by omega) HR2.out.lt).mono ?_
    rintro e w3 ⟨vb, lb, q3, rfl, hOb, hlb, hR3, hq3, hq4, he3⟩
    have HIa3 := Lib.hid (its_R HIa.out HR2.out he3)
    have HIb3 : Hid (Its w.heap.size w3 vb lb) := Lib.hid (Its.keep (hOb.sl (EIt_ok _) (Nat.le_refl _) (by unfold lim; omega)) HE2.out.size (fun _ _ _ => rfl))
    have HE3 := Lib.hid (HE2.out.trans he3)
    have HR3 := Lib.hid hR3
    clear hOb hR3 he3
    go_wp2
    go_ret2
    exact ⟨_, _, _, _, _, rfl, HIa3.out, HIb3.out, hla, hlb, HR3.out, by omega, by omega, HE3.out⟩
  · have hve : (v == 0) = false := by rw [beq_eq_false_iff_ne]; exact hv
    go_wp2_with fail
    refine (l5All_c _ HIa.out).mono ?_
    rintro e w3 ⟨vb, rfl, hOb, he3⟩
    have hIb : Its w2.heap.size w3 vb la := hOb.sl (EIt_ok _) (Nat.le_refl _) (by unfold lim; omega)
    have HIb := Lib.hid hIb
    have HR3 := Lib.hid (HR2.out.ext he3)
    have HE23 := Lib.hid (he3.toR rb)
    have HIa3 := Lib.hid (HIa.out.ext he3)
    obtain ⟨Ab, cb, rfl, -⟩ := hIb
    have hw1 : IntKind.i64.wrap ((la.length : Int) - 1) = (la.length : Int) - 1 := IntWalk.i64_in _ (by omega)
    clear hOb he3
    go_wp2_with fail
    go_loopw [5, 6] (fun v i wr => TwoRel rb w2 (q1 + 1) v i wr) (fun _ i _ => (intOf i + 1).toNat)
    case atStart => exact ⟨_, la, _, rfl, by omega, by omega, hla, HIb.out, HR3.out, by omega, by omega, HE23.out⟩
    case round =>
      obtain ⟨z, l, q', rfl, hz1, hz2, hl9, hI, hR, hqa, hqb, heR⟩ := hrel
      have HI := Lib.hid hI; have HR := Lib.hid hR; have HE := Lib.hid heR
      clear hI hR heR hw1
      by_cases hz0 : 0 ≤ z
      · obtain ⟨j, rfl⟩ := Int.eq_ofNat_of_zero_le hz0
        obtain ⟨x, hx⟩ := get_of_lt (l := l) (k := j) (by omega)
        go_wp2_with fail
        refine (pick_c 5 HR.out (by omega) (by omega)).mono ?_
        rintro e w4 ⟨v4, rfl, hv40, hv45, -, hR4, he4⟩
        have HR4 := Lib.hid hR4
        have hI4 := its_R HI.out HR.out he4
        have HI4 := Lib.hid hI4
        have HE4 := Lib.hid (HE.out.trans he4)
        obtain ⟨A4, c4, rfl, hS4⟩ := hI4
        obtain ⟨g, o, u2, rfl, hgB, hgl, hps, ⟨A2, c2, rfl, hu2⟩, hc0, hc1, hc2⟩ := Its.at_ hS4 hx
        have HS4 := Lib.hid hS4
        have Hx := Lib.hid hx
        have hll : l.length ≤ 9 := hl9
        have hjl : (j : Int) < (l.length : Int) := by omega
        have hwj : IntKind.i64.wrap (j : Int) = (j : Int) := IntWalk.i64_in _ (by omega)
        have a1 := hc1 w4 (Ext.refl _)
        have a0 := hc0 w4 (Ext.refl _)
        clear hR4 he4 hS4 hx hc0 hu2
        by_cases h0 : v4 = 0
        · subst h0
          cases hd : x.dir with
          | true =>
            rw [hd] at a1
            go_wp2
            exact ⟨⟨(j : Int) - 1, l, q' + 1, rfl, by omega, by omega, hl9, HI4.out, HR4.out, by omega, by omega, HE4.out⟩, by simp only [intOf]; omega⟩
          | false =>
            rw [hd] at a1
            have Hd := Lib.hid hd
            clear hd
            go_wp2_with (go_at_call 43; refine (pick_c 6 HR4.out (by omega) (by omega)).mono ?_; rintro e w5 ⟨v5, rfl, hv50, hv56, -, hR5, he5⟩; have hv5 := hv56 (by omega); have HR5 := Lib.hid hR5; have HE5 := Lib.hid (HE4.out.trans he5); have HS5 := Lib.hid (HS4.out.keepT (HR4.out.keepsT he5) (by decide) (fun _ _ _ h => h.keepT (HR4.out.keepsT he5) (by decide))); obtain ⟨g', o', u', hgo, cz, fz⟩ := Its.blk HS5.out Hx.out; simp only [Option.some.injEq, Addr.mk.injEq, and_true] at hgo; obtain ⟨rfl, rfl⟩ := hgo; clear hR5 he5)
            · have hset := SlIn.setIds (HS5.out.ext ((Ext.refl w5).alloc (.cells #[.int .i64 (1 + v5)] 3)) (fun _ _ _ h => h.keep (Nat.le_refl _) (((Ext.refl w5).alloc _).keeps _))) Hx.out (u := .slice (some ⟨w5.heap.size, 0, none⟩) 1 1) (ids := [1 + v5])
                ⟨_, 1, rfl, Nat.le_refl _, ⟨by unfold maxLen; omega, fun h => by cases h⟩, by unfold lim; simp, fun k x hk => by
                  cases k with
                  | zero => simp at hk; subst hk; exact ⟨w5.heap.size, 0, _, rfl, HE5.out.size, Blk.new _ _ _, rfl, by unfold inI; omega⟩
                  | succ k => simp at hk⟩
              obtain ⟨hset, hgB⟩ := hset
              have hkT : KeepsT 35 (w5.alloc (.cells #[.int .i64 (1 + v5)] 3)) ((w5.alloc (.cells #[.int .i64 (1 + v5)] 3)).setCell ⟨g, o + j * 3 + 2, none⟩ (.slice (some ⟨w5.heap.size, 0, none⟩) 1 1)) := by
                obtain ⟨b, o1, cs, he, -, hb, -⟩ := HS5.out.2.2.2 j x Hx.out
                simp only [Option.some.injEq, Addr.mk.injEq, and_true] at he
                obtain ⟨rfl, rfl⟩ := he
                exact KeepsT.set (hb.alloc _) _ rfl
              exact ⟨⟨(j : Int) - 1, l.set j ⟨x.path, x.dir, [1 + v5]⟩, q' + 1 + 1, rfl, by omega, by simp; omega, by simpa using hl9, ⟨_, _, by simp, hset⟩, (HR5.out.ext ((Ext.refl w5).alloc _)).keepT hkT (by decide) ((HE5.out.extend ((Ext.refl w5).alloc _)).low ((HE5.out.extend ((Ext.refl w5).alloc _)).setNew hgB _) HR2.out.lt), by omega, by omega, (HE5.out.extend ((Ext.refl w5).alloc _)).setNew hgB _⟩, by simp only [intOf]; omega⟩
            · exact ⟨⟨(j : Int) - 1, l, q' + 1, rfl, by omega, by omega, hl9, HI4.out, HR4.out, by omega, by omega, HE4.out⟩, by simp only [intOf]; omega⟩
        · have e0 : (v4 == 0) = false := by rw [beq_eq_false_iff_ne]; exact h0
          by_cases h1 : v4 = 1
          · subst h1
            go_wp2_with fail
            refine (specTreeDrop_c x.path _ HI4.out).mono ?_
            rintro e w5 ⟨r, rfl, ⟨vx, rfl, hIx⟩, he5⟩
            have hlx : (treeDrop l x.path).isSome = true → ((treeDrop l x.path).getD []).length + 1 = l.length := fun h => by
              unfold treeDrop at h ⊢
              split at h
              · next hc =>
                rw [if_pos hc]
                simp only [Option.getD_some]
                have : (atPath l x.path).toNat < l.length := by
                  rcases atG_find (pathIs x.path) l 0 with ⟨-, h2⟩ | ⟨i, y, hi, -, -, h2, -⟩
                  · have := hc.2.1; rw [atPath, h2] at this; omega
                  · have := lt_of_get hi; rw [atPath, h2]; omega
                rw [List.length_eraseIdx, if_pos this]; omega
              · cases h
            have HIx : Hid (Its w2.heap.size w5 vx ((treeDrop l x.path).getD [])) := Lib.hid (hIx.keep HE4.out.size (fun _ _ _ => rfl))
            have HR5 := Lib.hid (HR4.out.ext he5)
            have HE5 := Lib.hid (HE4.out.extend he5)
            have HI5 := Lib.hid (HI4.out.ext he5)
            clear hIx he5
            cases hs : (treeDrop l x.path).isSome with
            | true =>
              have hl1 := hlx hs
              clear hs hlx
              generalize (treeDrop l x.path).getD [] = lx at *
              go_wp2
              exact ⟨⟨(j : Int) - 1, lx, q' + 1, rfl, by omega, by omega, by omega, HIx.out, HR5.out, by omega, by omega, HE5.out⟩, by simp only [intOf]; omega⟩
            | false =>
              clear hlx hs
              go_wp2
              exact ⟨⟨(j : Int) - 1, l, q' + 1, rfl, by omega, by omega, hl9, HI5.out, HR5.out, by omega, by omega, HE5.out⟩, by simp only [intOf]; omega⟩
          · have e1 : (v4 == 1) = false := by rw [beq_eq_false_iff_ne]; exact h1
            go_wp2
            exact ⟨⟨(j : Int) - 1, l, q' + 1, rfl, by omega, by omega, hl9, HI4.out, HR4.out, by omega, by omega, HE4.out⟩, by simp only [intOf]; omega⟩
      · have hze : z = -1 := by omega
        subst hze
        have HE0 := HE.out
        have HE := Lib.hid (HE2.out.trans HE0)
        have HIb2 : Hid (Its w.heap.size wr u5 l) := Lib.hid (HI.out.keep HE2.out.size (fun _ _ _ => rfl))
        have HIa2 : Hid (Its w.heap.size wr va la) := Lib.hid (its_R HIa.out HR2.out HE0)
        go_wp2
        go_ret2
        exact ⟨_, _, _, _, _, rfl, HIa2.out, HIb2.out, hla, hl9, HR.out, by omega, by omega, HE.out⟩
end Go.Sf
