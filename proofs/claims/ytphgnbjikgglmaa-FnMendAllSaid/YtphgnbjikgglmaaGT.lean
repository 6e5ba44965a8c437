/- An item is put where none is, or taken away: plain. -/
import Derived.Test.YtphgnbjikgglmaaGI
import Derived.Test.YtphgnbjikgglmaaP20
import Derived.Test.YtphgnbjikgglmaaGE
import Derived.Test.YtphgnbjikgglmaaGD
import Derived.Test.YtphgnbjikgglmaaGO
import Derived.Test.YtphgnbjikgglmaaHH
import Derived.StillTailTactics
import Derived.Test.YtphgnbjikgglmaaGJ
import Derived.Test.YtphgnbjikgglmaaHG
set_option linter.all false
/-! An item is put where none is, or taken away: plain. -/
namespace Go.Sf
open Go Go.RowKit
end Go.Sf

/-! A tree with an item less. -/
namespace Go.Sf
open Go Go.RowKit
end Go.Sf

/-! Stores that lose a use of a block. -/
namespace Go.Sf
open Go Go.RowKit
end Go.Sf

/-! The reference's copy of a store, and what it drops. -/
namespace Go.Sf
open Go Go.RowKit Go.Proofs
theorem ehd_of {B : Nat} {w : World} {x : Hd} {u : Value} (h1 : inI x.id) (h2 : Ints B w u x.bytes) (h3 : inI x.uses) : EHd B w #[.int .i64 x.id, u, .int .i64 x.uses] 0 x := ⟨rfl, h1, ⟨u, rfl, h2⟩, rfl, h3⟩
set_option maxRecDepth 4000 in
set_option maxHeartbeats 2000000 in
theorem l3Copy_c {B : Nat} {v : Value} {l : List Hd} (w : World) (h : Hds B w v l) : Calls TryG.prog 37 #[v] w (RetP (fun v' w' => OwnS w.heap.size 35 3 (EHd w.heap.size) w' v' l) w) := by
  obtain ⟨A, c, rfl, hA⟩ := h
  have hl := hA.2.2.1
  unfold lim at hl
  generalize hn : l.length = n at *
  have Hn := Lib.hid hn; clear hn
  have HA := Lib.hid hA; clear hA
  go_enter TryG.func37, TryG.ntmps37
  go_wp2
  go_loopw [3, 4] (fun v i wr => ∃ k : Nat, k ≤ n ∧ i = .int .i64 k ∧ Ext w wr ∧ OwnS w.heap.size 35 3 (EHd w.heap.size) wr v (l.take k)) (fun _ i _ => n - (RowKit.intOf i).toNat)
  case atStart => exact ⟨0, by omega, rfl, (Ext.refl w).alloc _, OwnS.lit0 _ _ _ _ (Nat.le_refl _)⟩
  case round =>
    obtain ⟨k, hk, rfl, he, hO⟩ := hrel
    by_cases hlt : k < n
    · obtain ⟨x, hx⟩ := get_of_lt (l := l) (k := k) (by rw [Hn.out]; exact hlt)
      obtain ⟨b, o, u, rfl, -, -, hxi, hu, hxu, hc0, hc1, hc2⟩ := Hds.at_ HA.out hx
      have hul := hu.len
      obtain ⟨Ax, cx, rfl, hux⟩ := hu
      have a0 := hc0 wr he; have a1 := hc1 wr he; have a2 := hc2 wr he
      have Hx := Lib.hid (take_succ_get hx)
      have HO := Lib.hid hO
      have HU : Hid (∀ W, Ext w W → Ints B W (.slice Ax x.bytes.length cx) x.bytes) := Lib.hid fun W e => Ints.ext (w := w) ⟨_, _, rfl, hux⟩ e
      have hkl : (l.take k).length = k := by rw [List.length_take, Hn.out]; omega
      clear hc0 hc1 hc2 hx hO hux
      obtain ⟨xk, xb, xu⟩ := x
      simp only at *
      have hbk := Blk.new wr 35 #[.int .i64 xk, .slice Ax xb.length cx, .int .i64 xu]
      have d1 := fun W (e : Ext _ W) => hbk.at_ (i := 1) (u := .slice Ax xb.length cx) rfl W e
      have Hbk := Lib.hid hbk
      clear hbk
      go_wp2_with (at_builtin; go_must (refine wp_apS (w0 := wr) (by rfl) _ _ (by rfl) el_int eint_ok ?_ _ _ [] xb (by rfl) (OwnS.lit _ _ _ _ ?_ (by simp)) (by rfl) (HU.out _ ?_) ?_ ?_))
      · (repeat' (first | exact Ext.refl _ | assumption | refine Ext.alloc ?_ _ | refine Ext.drew ?_ | refine Ext.drewN ?_ _))
      · simp
      · refine he.trans ?_; (repeat' (first | exact Ext.refl _ | assumption | refine Ext.alloc ?_ _ | refine Ext.drew ?_ | refine Ext.drewN ?_ _))
      · simpa using hul
      · intro v' w' hO' he' hk'
        have hb1 := hk' _ _ _ (by decide) (Hbk.out.alloc (.cells #[] 3))
        have c0 := hb1.cell 0; have c1 := hb1.cell 1; have c2 := hb1.cell 2
        have f1 := hb1.frozen 1
        simp at c0 c1 c2
        obtain ⟨A', c', rfl⟩ := hO'.form
        have HU' : Hid (Ints w.heap.size w' (.slice A' xb.length c') xb) := Lib.hid (Ints.keep (hO'.sl eint_ok (Nat.le_refl _) hul) he.size (fun _ _ _ => rfl))
        have he2 : Ext wr (w'.setCell ⟨wr.heap.size, 1, none⟩ (.slice A' xb.length c')) := he'.setCell (p := ⟨wr.heap.size, 1, none⟩) (Nat.le_refl _) _
        have he3 := he.trans he2
        have HO2 := Lib.hid (HO.out.ext (EHd_ok _) he2)
        have K2 : KeepsT 35 w' _ := KeepsT.set (i := 1) hb1 (.slice A' xb.length c') rfl
        have HU2 : Hid (Ints w.heap.size (w'.setCell ⟨wr.heap.size, 1, none⟩ (.slice A' xb.length c')) (.slice A' xb.length c') xb) := Lib.hid (HU'.out.keepT K2 (by decide))
        clear hO' he' hk' hb1 HU' K2 Hbk
        go_wp2_with (at_builtin; go_must (refine wp_ap1 (w0 := w) (by rfl) _ _ (by rfl) el_Hd (EHd_ok _) he3 _ (l.take k) [⟨xk, xb, xu⟩] (by rfl) HO2.out 1 1 rfl #[.int .i64 xk, .slice A' xb.length c', .int .i64 xu] _ (by rfl) (by first | rfl | simp) rfl (oneHd rfl) (one_E (ehd_of (x := ⟨xk, xb, xu⟩) hxi HU2.out hxu)) ?_ ?_))
        · rw [hkl]; simp; unfold lim; omega
        · intro v3 w3 hO3 he4 _
          have HO3 := Lib.hid hO3
          clear hO3 he2 he3
          go_wp2
          go_roundw
          case rel => exact ⟨k + 1, by omega, by go_num, he4, by rw [Hx.out]; exact HO3.out⟩
          case measure => simp [RowKit.intOf]; omega
    · have hks : k = n := by omega
      subst hks
      have HO := Lib.hid hO; clear hO
      go_wp2
      go_ret
      have := HO.out
      rw [List.take_of_length_le (by rw [Hn.out]; omega)] at this
      exact ⟨_, rfl, this, he⟩
end Go.Sf

/-! The reference puts an item into a valid tree. -/
namespace Go.Sf
open Go Go.RowKit Go.Proofs
end Go.Sf

/-! The reference makes a directory of a volume. -/
namespace Go.Sf
open Go Go.RowKit Go.Proofs
theorem OwnS.weak {α : Type} {base base' : Nat} {t : TypeId} {sz : Nat} {E E' : World → Array Value → Nat → α → Prop} {w : World} {v : Value} {l : List α} (h : OwnS base t sz E w v l) (hb : base' ≤ base) (hE : ∀ cs p x, E w cs p x → E' w cs p x) : OwnS base' t sz E' w v l := by
  obtain ⟨xs, h1, h2⟩ := h.mono hb
  exact ⟨xs, h1, fun k x hx => hE _ _ _ (h2 k x hx)⟩
theorem OwnS.hd {B B' : Nat} {w w' : World} {v : Value} {l : List Hd} {t : TypeId} (h : OwnS B 35 3 (EHd B) w v l) (hb : B' ≤ B) (hk : KeepsT t w w') (h1 : 35 ≠ t) (h2 : 3 ≠ t) : OwnS B' 35 3 (EHd B') w' v l :=
  (h.weak hb fun _ _ _ g => g.keep hb (fun _ _ _ => rfl)).keepT hk h1 fun _ _ _ g => g.keepT hk h2
theorem OwnS.isHds {B : Nat} {w : World} {v : Value} {l : List Hd} (h : OwnS B 35 3 (EHd B) w v l) (hl : l.length ≤ lim) : Hds B w v l := h.sl (EHd_ok _) (Nat.le_refl _) hl
end Go.Sf

/-! The reference drops a block, and frees a file. -/
namespace Go.Sf
open Go Go.RowKit Go.Proofs
/-- how often a block is used is written -/
theorem OwnS.setUses {base B : Nat} {w : World} {v : Value} {l : List Hd} (h : OwnS base 35 3 (EHd B) w v l) {k : Nat} {x : Hd} (hx : l[k]? = some x) :
    ∃ g c, v = .slice (some ⟨g, 0, none⟩) l.length c ∧ l.length ≤ c ∧ base ≤ g ∧ w.cell? ⟨g, k * 3 + 2, none⟩ = some (.int .i64 x.uses) ∧ w.frozen? ⟨g, k * 3 + 2, none⟩ = false ∧
      ∀ y, inI y → OwnS base 35 3 (EHd B) (w.setCell ⟨g, k * 3 + 2, none⟩ (.int .i64 y)) v (l.set k { x with uses := y }) := by
  obtain ⟨xs, ⟨h1, h2⟩, h3⟩ := h
  have hk := lt_of_get hx
  rcases h2 with ⟨rfl, hn⟩ | ⟨g, cap, cur, rfl, hg, hh, hnc, hcm, hcs, htk⟩
  · rw [hn] at hk; omega
  · have hb : Blk w g 35 cur := hh
    have hc0 : cur[k * 3 + 2]? = xs[k * 3 + 2]? := by rw [← htk, List.getElem?_take_of_lt (by omega), Array.getElem?_toList]
    have he := h3 k x hx
    refine ⟨g, cap, rfl, hnc, hg, ?_, hb.frozen _, fun y hy => ⟨xs.set (k * 3 + 2) (.int .i64 y), ⟨by simpa using h1, .inr ⟨g, cap, cur.setIfInBounds (k * 3 + 2) (.int .i64 y), ?_, hg, hb.set_ _ _, ?_, hcm, ?_, ?_⟩⟩, fun j z hz => ?_⟩⟩
    · rw [hb.cell, hc0]
      have := he.2.2.2.1
      rw [List.getElem?_toArray] at this
      exact this
    · rw [List.length_set]
    · rw [List.length_set]; exact hnc
    · simpa using hcs
    · rw [List.length_set, Array.toList_setIfInBounds, List.take_set, htk]
    · have hK : KeepsT 35 w (w.setCell ⟨g, k * 3 + 2, none⟩ (.int .i64 y)) := KeepsT.set (i := k * 3 + 2) hb (.int .i64 y) rfl
      rw [List.getElem?_set] at hz
      split at hz
      · next e =>
        subst e
        cases hz
        obtain ⟨q0, q1, ⟨u, q2, q3⟩, q4, q5⟩ := he
        rw [List.getElem?_toArray] at q0 q2 q4
        refine ⟨?_, q1, ⟨u, ?_, q3.keepT hK (by decide)⟩, ?_, hy⟩
        · rw [List.getElem?_toArray, List.getElem?_set_ne (by omega)]; exact q0
        · rw [List.getElem?_toArray, List.getElem?_set_ne (by omega)]; exact q2
        · rw [List.getElem?_toArray, List.getElem?_set_self (by omega)]
      · next e =>
        obtain ⟨q0, q1, ⟨u, q2, q3⟩, q4, q5⟩ := h3 j z hz
        rw [List.getElem?_toArray] at q0 q2 q4
        refine ⟨?_, q1, ⟨u, ?_, q3.keepT hK (by decide)⟩, ?_, q5⟩
        · rw [List.getElem?_toArray, List.getElem?_set_ne (by omega)]; exact q0
        · rw [List.getElem?_toArray, List.getElem?_set_ne (by omega)]; exact q2
        · rw [List.getElem?_toArray, List.getElem?_set_ne (by omega)]; exact q4
/-- a store of the call's own and whether there is one -/
def OptHds (B : Nat) (o : Option (List Hd)) (r : Value) (w : World) : Prop := ∃ v, r = .tuple #[v, .bool o.isSome] ∧ OwnS B 35 3 (EHd B) w v (o.getD [])
theorem OptHds.none_ {B : Nat} {w : World} {o : Option (List Hd)} (hB : B ≤ w.heap.size) (h : o = none) : OptHds B o (.tuple #[.slice (some ⟨w.heap.size, 0, none⟩) 0 0, .bool false]) (w.alloc (.cells #[] 35)) := by
  subst h; exact ⟨_, rfl, OwnS.lit0 _ _ _ _ hB⟩
end Go.Sf

/-! The reference frees a file. -/
namespace Go.Sf
open Go Go.RowKit Go.Proofs
end Go.Sf

/-! The reference drops an item of a volume. -/
namespace Go.Sf
open Go Go.RowKit Go.Proofs
end Go.Sf
