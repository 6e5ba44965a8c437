/- Arguments from outside, read by their cells alone; what szItemS makes of them. -/
import Derived.Test.YtbdgpbakhjpklaaGreatDoorGC
import Derived.Test.YtbdgpbakhjpklaaGreatDoorGE
import Derived.Laws.MakeOwn
namespace Go.Sf
open Go Go.RowKit Go.Proofs
/-- a row of elements that are read by cells, sz cells each -/
def ARow {α : Type} (sz : Nat) (E : World → Nat → Nat → α → Prop) (w : World) (A : Option Addr) (c : Nat) (l : List α) : Prop :=
  l.length ≤ c ∧ (c ≤ maxLen ∧ (A = none → c = 0)) ∧ ∀ (k : Nat) (x : α), l[k]? = some x → ∃ b o, A = some ⟨b, o, none⟩ ∧ E w b (o + k * sz) x
def ASl {α : Type} (sz : Nat) (E : World → Nat → Nat → α → Prop) (w : World) (v : Value) (l : List α) : Prop := ∃ A c, v = .slice A l.length c ∧ ARow sz E w A c l
theorem ASl.ext {α : Type} {sz : Nat} {E : World → Nat → Nat → α → Prop} {w w' : World} {v : Value} {l : List α} (h : ASl sz E w v l) (hE : ∀ b p x, E w b p x → E w' b p x) : ASl sz E w' v l :=
  let ⟨A, c, h1, h2, h3, h4⟩ := h; ⟨A, c, h1, h2, h3, fun k x hx => let ⟨b, o, e1, e2⟩ := h4 k x hx; ⟨b, o, e1, hE _ _ _ e2⟩⟩
/-- an int of an argument -/
def AInt (w : World) (b p : Nat) (x : Int) : Prop := w.cell? ⟨b, p, none⟩ = some (.int .i64 x) ∧ inI x
def AInts (w : World) (v : Value) (xs : List Int) : Prop := ASl 1 AInt w v xs
theorem AInts.ext {w w' : World} {v : Value} {xs : List Int} (h : AInts w v xs) (e : Ext w w') : AInts w' v xs := ASl.ext h fun _ _ _ ⟨h1, h2⟩ => ⟨e.cell h1, h2⟩
/-- what is left of a bound, or -1 -/
def dec (left : Int) (n : Nat) : Int := if left < n then -1 else left - n
theorem dec_neg {left : Int} {n : Nat} (h : left < n) : dec left n = -1 := if_pos h
theorem dec_pos {left : Int} {n : Nat} (h : ¬ left < n) : dec left n = left - n := if_neg h
set_option maxHeartbeats 1000000 in
theorem szIntS_c {A : Option Addr} {n c : Nat} {left : Int} (w : World) (h0 : 0 ≤ left) (h1 : left ≤ 1048576) (hn : n ≤ maxLen) : Calls Tryz.prog 100 #[.slice A n c, .int .i64 left] w (Ret (.int .i64 (dec left n)) w) := by
  unfold maxLen at hn
  by_cases h : left < n
  · have h2 : left - (n : Int) < 0 := by omega
    go_enter Tryz.func100, Tryz.ntmps100
    go_wp2
    go_ret
    exact ⟨ret_v (by rw [dec_neg (by omega)]; rfl), Ext.refl w⟩
  · have h2 : ¬ left - (n : Int) < 0 := by omega
    go_enter Tryz.func100, Tryz.ntmps100
    go_wp2
    go_ret
    exact ⟨ret_v (by rw [dec_pos (by omega)]; rfl), Ext.refl w⟩
theorem dec_le {left : Int} {n : Nat} (h0 : 0 ≤ left) (h1 : left ≤ 1048576) : dec left n ≤ 1048576 := by unfold dec; split <;> omega
theorem dec_dec {left : Int} {a b : Nat} (h : ¬ left < a) : dec (dec left a) b = dec left (a + b) := by
  rw [dec_pos h]; unfold dec
  by_cases h2 : left < ((a + b : Nat) : Int)
  · rw [if_pos h2, if_pos (by omega)]
  · rw [if_neg h2, if_neg (by omega)]; omega
theorem dec_more {left : Int} {a b : Nat} (h : left < a) : dec left (a + b) = -1 := dec_neg (by omega)
/-! ### items -/
def AIt (w : World) (b p : Nat) (x : It) : Prop :=
  w.cell? ⟨b, p, none⟩ = some (.string x.path) ∧ x.path.size ≤ maxLen ∧ w.cell? ⟨b, p + 1, none⟩ = some (.bool x.dir) ∧ ∃ u, w.cell? ⟨b, p + 2, none⟩ = some u ∧ AInts w u x.ids
def AIts (w : World) (v : Value) (l : List It) : Prop := ASl 3 AIt w v l
theorem AIts.ext {w w' : World} {v : Value} {l : List It} (h : AIts w v l) (e : Ext w w') : AIts w' v l := ASl.ext h fun _ _ _ ⟨h1, h2, h3, u, h4, h5⟩ => ⟨e.cell h1, h2, e.cell h3, u, e.cell h4, h5.ext e⟩
/-- an item by value -/
def AItV (w : World) (v : Value) (x : It) : Prop := ∃ u, v = .agg #[.string x.path, .bool x.dir, u] ∧ x.path.size ≤ maxLen ∧ AInts w u x.ids
def bkIt (x : It) : Nat := x.path.size + x.ids.length
def bkIts (l : List It) : Nat := l.length + (l.map bkIt).sum
set_option maxHeartbeats 1000000 in
theorem szItem_c {v : Value} {x : It} {left : Int} (w : World) (h : AItV w v x) (h0 : 0 ≤ left) (h1 : left ≤ 1048576) : Calls Tryz.prog 58 #[v, .int .i64 left] w (Ret (.int .i64 (dec left (bkIt x))) w) := by
  obtain ⟨xp, xd, xi⟩ := x
  obtain ⟨u, rfl, hps, A, c, rfl, hlc, ⟨hcm, hA⟩, hel⟩ := h
  simp only at hps hlc hel ⊢
  have hmn : xi.length ≤ maxLen := Nat.le_trans hlc hcm
  have hpm := Lib.hid hps
  unfold maxLen at hps
  have Hm := Lib.hid hmn
  clear hel hlc hcm hA hmn
  by_cases h2 : left < xp.size
  · have h3 : left - (xp.size : Int) < 0 := by omega
    go_enter Tryz.func58, Tryz.ntmps58
    go_wp2
    go_ret
    exact ⟨ret_v (by rw [bkIt, dec_more h2]; rfl), (Ext.refl w).alloc _⟩
  · have h3 : ¬ left - (xp.size : Int) < 0 := by omega
    have h4 : 0 ≤ left - (xp.size : Int) := by omega
    have hb := dec_dec (b := xi.length) h2
    rw [dec_pos h2] at hb
    have HB := Lib.hid hb; clear hb
    have hle := dec_le (n := xi.length) h4 (by omega)
    have hd : Hid (0 ≤ dec (left - xp.size) xi.length ∨ dec (left - xp.size) xi.length = -1) := Lib.hid (by unfold dec; split <;> omega)
    have Cs : ∀ W, Calls Tryz.prog 100 #[.slice A xi.length c, .int .i64 (left - xp.size)] W (Ret (.int .i64 (dec (left - xp.size) xi.length)) W) := fun W => szIntS_c W h4 (by omega) Hm.out
    generalize hD : dec (left - xp.size) xi.length = D at *
    have HD := Lib.hid hD; clear hD
    by_cases h5 : D < 0
    · go_enter Tryz.func58, Tryz.ntmps58
      go_wp2_with (go_at_call 100; refine (Cs _).mono ?_; rintro e w1 ⟨rfl, he1⟩)
      go_ret
      have hv : Value.int .i64 (-1) = .int .i64 (dec left (bkIt ⟨xp, xd, xi⟩)) := by
        rw [bkIt, ← HB.out]
        rcases hd.out with h | h
        · omega
        · rw [h]
      exact ⟨ret_v hv, ((Ext.refl w).alloc _).trans he1⟩
    · go_enter Tryz.func58, Tryz.ntmps58
      go_wp2_with (go_at_call 100; refine (Cs _).mono ?_; rintro e w1 ⟨rfl, he1⟩)
      go_ret
      have hv : Value.int .i64 D = .int .i64 (dec left (bkIt ⟨xp, xd, xi⟩)) := by rw [bkIt, ← HB.out]
      exact ⟨ret_v hv, ((Ext.refl w).alloc _).trans he1⟩
theorem bk_take {l : List It} {k : Nat} {x : It} (h : l[k]? = some x) : ((l.take (k + 1)).map bkIt).sum = ((l.take k).map bkIt).sum + bkIt x := by
  rw [List.take_add_one, h]; simp
theorem bk_take_le (l : List It) (k : Nat) : ((l.take k).map bkIt).sum ≤ (l.map bkIt).sum := by
  conv => rhs; rw [← List.take_append_drop k l]
  rw [List.map_append, List.sum_append]; omega
set_option maxRecDepth 4000 in
set_option maxHeartbeats 1000000 in
theorem szItemS_c {v : Value} {l : List It} {left : Int} (w : World) (h : AIts w v l) (h0 : 0 ≤ left) (h1 : left ≤ 1048576) : Calls Tryz.prog 27 #[v, .int .i64 left] w (Ret (.int .i64 (dec left (bkIts l))) w) := by
  obtain ⟨A, c, rfl, hlc, ⟨hcm, hA⟩, hel⟩ := h
  have hmn : l.length ≤ maxLen := Nat.le_trans hlc hcm
  unfold maxLen at hmn
  have hex : ∃ n, l.length = n := ⟨_, rfl⟩
  obtain ⟨n, hn⟩ := hex
  rw [hn] at hmn ⊢
  have Hn := Lib.hid hn
  have HE := Lib.hid hel
  clear hel hlc hcm hA hn
  by_cases h2 : left < n
  · have h3 : left - (n : Int) < 0 := by omega
    go_enter Tryz.func27, Tryz.ntmps27
    go_wp2
    go_ret
    exact ⟨ret_v (by rw [bkIts, Hn.out, dec_more h2]; rfl), Ext.refl w⟩
  · have h3 : ¬ left - (n : Int) < 0 := by omega
    go_enter Tryz.func27, Tryz.ntmps27
    go_wp2
    go_loopw [1, 5] (fun d i wr => ∃ (k : Nat) (D : Int), k ≤ n ∧ i = .int .i64 k ∧ d = .int .i64 D ∧ Ext w wr ∧ 0 ≤ D ∧ D ≤ 1048576 ∧ Hid (D = left - n - ((l.take k).map bkIt).sum)) (fun _ i _ => n - (intOf i).toNat)
    case atStart => exact ⟨0, left - n, by omega, rfl, rfl, Ext.refl w, by omega, by omega, Lib.hid (by simp)⟩
    case round =>
      obtain ⟨k, D, hk, rfl, rfl, he, hD0, hD1, hD⟩ := hrel
      by_cases hlt : k < n
      · obtain ⟨x, hx⟩ := get_of_lt (l := l) (k := k) (by rw [Hn.out]; exact hlt)
        obtain ⟨b, o, rfl, hc0, hps, hc1, u, hc2, hu⟩ := HE.out k x hx
        obtain ⟨Au, cu, rfl, hU⟩ := hu
        have a0 := fun W (e : Ext wr W) => (he.trans e).cell hc0
        have a1 := fun W (e : Ext wr W) => (he.trans e).cell hc1
        have a2 := fun W (e : Ext wr W) => (he.trans e).cell hc2
        have hs := szItem_c (x := x) (left := D) wr ⟨_, rfl, hps, AInts.ext ⟨_, _, rfl, hU⟩ he⟩ hD0 hD1
        have Hs := Lib.hid hs
        have Hx := Lib.hid (bk_take hx)
        have Hb := Lib.hid (bk_take_le l (k + 1))
        have hle := dec_le (n := bkIt x) hD0 hD1
        have hd : Hid ((D < bkIt x ∧ dec D (bkIt x) = -1) ∨ (¬ D < bkIt x ∧ dec D (bkIt x) = D - bkIt x ∧ 0 ≤ D - bkIt x)) := Lib.hid (by
          by_cases h : D < bkIt x
          · exact .inl ⟨h, dec_neg h⟩
          · exact .inr ⟨h, dec_pos h, by omega⟩)
        have aa0 := a0 wr (Ext.refl _); have aa1 := a1 wr (Ext.refl _); have aa2 := a2 wr (Ext.refl _)
        clear hc0 hc1 hc2 hU hx hs a0 a1 a2
        generalize hM : bkIt x = M at *
        have HM := Lib.hid hM; clear hM
        generalize hR : dec D M = R at *
        have HR := Lib.hid hR; clear hR
        by_cases h5 : R < 0
        · go_wp2_with (go_at_call 58; refine Hs.out.mono ?_; rintro e w1 ⟨rfl, he1⟩)
          go_ret
          have hv : Value.int .i64 (-1) = .int .i64 (dec left (bkIts l)) := by
            rcases hd.out with ⟨ha, hb⟩ | ⟨ha, hb, hc⟩
            · rw [bkIts, dec_neg (by have := hD.out; have := Hx.out; have := Hb.out; have := Hn.out; omega)]
            · omega
          exact ⟨ret_v hv, he.trans he1⟩
        · go_wp2_with (go_at_call 58; refine Hs.out.mono ?_; rintro e w1 ⟨rfl, he1⟩)
          go_roundw
          case rel =>
            refine ⟨k + 1, R, by omega, by go_num, rfl, he.trans he1, by omega, hle, Lib.hid ?_⟩
            rcases hd.out with ⟨ha, hb⟩ | ⟨ha, hb, hc⟩
            · omega
            · rw [Hx.out, hb]; have := hD.out; omega
          case measure => simp [intOf]; omega
      · have hks : k = n := by omega
        subst hks
        have e : l.take k = l := List.take_of_length_le (by rw [Hn.out]; omega)
        rw [e] at hD
        go_wp2
        go_ret
        have hv : Value.int .i64 D = .int .i64 (dec left (bkIts l)) := by
          rw [bkIts, Hn.out, dec_pos (by have := hD.out; omega)]; have := hD.out; congr 1; omega
        exact ⟨ret_v hv, he⟩
end Go.Sf
