/- Arguments from outside, read by their cells alone; what szItemS makes of them. -/
import Derived.Test.YtmgnmfkkikmedaaGreatDoorGC
import Derived.Test.YtmgnmfkkikmedaaGreatDoorGE
import Derived.Laws.MakeOwn
import Derived.Lib.SlBytesRow
/-! Arguments from outside, read by their cells alone; what szItemS makes of them. -/
namespace Go.Sf
open Go Go.RowKit Go.Proofs
/-- a row of elements that are read by cells, sz cells each -/
def ARow {α : Type} (sz : Nat) (E : World → Nat → Nat → α → Prop) (w : World) (A : Option Addr) (c : Nat) (l : List α) : Prop :=
  l.length ≤ c ∧ (c ≤ maxLen ∧ (A = none → c = 0)) ∧ ∀ (k : Nat) (x : α), l[k]? = some x → ∃ b o, A = some ⟨b, o, none⟩ ∧ E w b (o + k * sz) x
def ASl {α : Type} (sz : Nat) (E : World → Nat → Nat → α → Prop) (w : World) (v : Value) (l : List α) : Prop := ∃ A c, v = .slice A l.length c ∧ ARow sz E w A c l
theorem ASl.ext {α : Type} {sz : Nat} {E : World → Nat → Nat → α → Prop} {w w' : World} {v : Value} {l : List α} (h : ASl sz E w v l) (hE : ∀ b p x, E w b p x → E w' b p x) : ASl sz E w' v l :=
  let ⟨A, c, h1, h2, h3, h4⟩ := h; ⟨A, c, h1, h2, h3, fun k x hx => let ⟨b, o, e1, e2⟩ := h4 k x hx; ⟨b, o, e1, hE _ _ _ e2⟩⟩
/-- an int of an argument -/
def AInt (w : World) (b p : Nat) (x : Int) : Prop := w.cell? ⟨b, p, none⟩ = some (.int .i64 x) ∧ inI x
def AInts (w : World) (v : Value) (xs : List Int) : Prop := ASl 1 AInt w v xs
theorem AInts.ext {w w' : World} {v : Value} {xs : List Int} (h : AInts w v xs) (e : Ext w w') : AInts w' v xs := ASl.ext h fun _ _ _ ⟨h1, h2⟩ => ⟨e.cell h1, h2⟩
/-- what is left of a bound, or -1 -/
def dec (left : Int) (n : Nat) : Int := if left < n then -1 else left - n
theorem dec_neg {left : Int} {n : Nat} (h : left < n) : dec left n = -1 := if_pos h
theorem dec_pos {left : Int} {n : Nat} (h : ¬ left < n) : dec left n = left - n := if_neg h
set_option maxHeartbeats 1000000 in
theorem szIntS_c {A : Option Addr} {n c : Nat} {left : Int} (w : World) (h0 : 0 ≤ left) (h1 : left ≤ 1048576) (hn : n ≤ maxLen) : Calls Tryz.prog 154 #[.slice A n c, .int .i64 left] w (Ret (.int .i64 (dec left n)) w) := by
  unfold maxLen at hn
  by_cases h : left < n
  · have h2 : left - (n : Int) < 0 := by omega
    go_enter Tryz.func154, Tryz.ntmps154
    go_wp2
    go_ret
    exact ⟨ret_v (by rw [dec_neg (by omega)]; rfl), Ext.refl w⟩
  · have h2 : ¬ left - (n : Int) < 0 := by omega
    go_enter Tryz.func154, Tryz.ntmps154
    go_wp2
    go_ret
    exact ⟨ret_v (by rw [dec_pos (by omega)]; rfl), Ext.refl w⟩
theorem dec_le {left : Int} {n : Nat} (h0 : 0 ≤ left) (h1 : left ≤ 1048576) : dec left n ≤ 1048576 := by unfold dec; split <;> omega
theorem dec_dec {left : Int} {a b : Nat} (h : ¬ left < a) : dec (dec left a) b = dec left (a + b) := by
  rw [dec_pos h]; unfold dec
  by_cases h2 : left < ((a + b : Nat) : Int)
  · rw [if_pos h2, if_pos (by omega)]
  · rw [if_neg h2, if_neg (by omega)]; omega
theorem dec_more {left : Int} {a b : Nat} (h : left < a) : dec left (a + b) = -1 := dec_neg (by omega)
/-! ### items -/
def AIt (w : World) (b p : Nat) (x : It) : Prop :=
  w.cell? ⟨b, p, none⟩ = some (.string x.path) ∧ x.path.size ≤ maxLen ∧ w.cell? ⟨b, p + 1, none⟩ = some (.bool x.dir) ∧ ∃ u, w.cell? ⟨b, p + 2, none⟩ = some u ∧ AInts w u x.ids
def AIts (w : World) (v : Value) (l : List It) : Prop := ASl 3 AIt w v l
theorem AIts.ext {w w' : World} {v : Value} {l : List It} (h : AIts w v l) (e : Ext w w') : AIts w' v l := ASl.ext h fun _ _ _ ⟨h1, h2, h3, u, h4, h5⟩ => ⟨e.cell h1, h2, e.cell h3, u, e.cell h4, h5.ext e⟩
/-- an item by value -/
def AItV (w : World) (v : Value) (x : It) : Prop := ∃ u, v = .agg #[.string x.path, .bool x.dir, u] ∧ x.path.size ≤ maxLen ∧ AInts w u x.ids
def bkIt (x : It) : Nat := x.path.size + x.ids.length
def bkIts (l : List It) : Nat := l.length + (l.map bkIt).sum
set_option maxHeartbeats 1000000 in
theorem szItem_c {v : Value} {x : It} {left : Int} (w : World) (h : AItV w v x) (h0 : 0 ≤ left) (h1 : left ≤ 1048576) : Calls Tryz.prog 108 #[v, .int .i64 left] w (Ret (.int .i64 (dec left (bkIt x))) w) := by
  obtain ⟨xp, xd, xi⟩ := x
  obtain ⟨u, rfl, hps, A, c, rfl, hlc, ⟨hcm, hA⟩, hel⟩ := h
  simp only at hps hlc hel ⊢
  have hmn : xi.length ≤ maxLen := Nat.le_trans hlc hcm
  have hpm := Lib.hid hps
  unfold maxLen at hps
  have Hm := Lib.hid hmn
  clear hel hlc hcm hA hmn
  by_cases h2 : left < xp.size
  · have h3 : left - (xp.size : Int) < 0 := by omega
    go_enter Tryz.func108, Tryz.ntmps108
    go_wp2
    go_ret
    exact ⟨ret_v (by rw [bkIt, dec_more h2]; rfl), (Ext.refl w).alloc _⟩
  · have h3 : ¬ left - (xp.size : Int) < 0 := by omega
    have h4 : 0 ≤ left - (xp.size : Int) := by omega
    have hb := dec_dec (b := xi.length) h2
    rw [dec_pos h2] at hb
    have HB := Lib.hid hb; clear hb
    have hle := dec_le (n := xi.length) h4 (by omega)
    have hd : Hid (0 ≤ dec (left - xp.size) xi.length ∨ dec (left - xp.size) xi.length = -1) := Lib.hid (by unfold dec; split <;> omega)
    have Cs : ∀ W, Calls Tryz.prog 154 #[.slice A xi.length c, .int .i64 (left - xp.size)] W (Ret (.int .i64 (dec (left - xp.size) xi.length)) W) := fun W => szIntS_c W h4 (by omega) Hm.out
    generalize hD : dec (left - xp.size) xi.length = D at *
    have HD := Lib.hid hD; clear hD
    by_cases h5 : D < 0
    · go_enter Tryz.func108, Tryz.ntmps108
      go_wp2_with (go_at_call 154; refine (Cs _).mono ?_; rintro e w1 ⟨rfl, he1⟩)
      go_ret
      have hv : Value.int .i64 (-1) = .int .i64 (dec left (bkIt ⟨xp, xd, xi⟩)) := by
        rw [bkIt, ← HB.out]
        rcases hd.out with h | h
        · omega
        · rw [h]
      exact ⟨ret_v hv, ((Ext.refl w).alloc _).trans he1⟩
    · go_enter Tryz.func108, Tryz.ntmps108
      go_wp2_with (go_at_call 154; refine (Cs _).mono ?_; rintro e w1 ⟨rfl, he1⟩)
      go_ret
      have hv : Value.int .i64 D = .int .i64 (dec left (bkIt ⟨xp, xd, xi⟩)) := by rw [bkIt, ← HB.out]
      exact ⟨ret_v hv, ((Ext.refl w).alloc _).trans he1⟩
theorem bk_take {l : List It} {k : Nat} {x : It} (h : l[k]? = some x) : ((l.take (k + 1)).map bkIt).sum = ((l.take k).map bkIt).sum + bkIt x := by
  rw [List.take_add_one, h]; simp
theorem bk_take_le (l : List It) (k : Nat) : ((l.take k).map bkIt).sum ≤ (l.map bkIt).sum := by
  conv => rhs; rw [← List.take_append_drop k l]
  rw [List.map_append, List.sum_append]; omega
set_option maxRecDepth 4000 in
set_option maxHeartbeats 1000000 in
theorem szItemS_c {v : Value} {l : List It} {left : Int} (w : World) (h : AIts w v l) (h0 : 0 ≤ left) (h1 : left ≤ 1048576) : Calls Tryz.prog 50 #[v, .int .i64 left] w (Ret (.int .i64 (dec left (bkIts l))) w) := by
  obtain ⟨A, c, rfl, hlc, ⟨hcm, hA⟩, hel⟩ := h
  have hmn : l.length ≤ maxLen := Nat.le_trans hlc hcm
  unfold maxLen at hmn
  have hex : ∃ n, l.length = n := ⟨_, rfl⟩
  obtain ⟨n, hn⟩ := hex
  rw [hn] at hmn ⊢
  have Hn := Lib.hid hn
  have HE := Lib.hid hel
  clear hel hlc hcm hA hn
  by_cases h2 : left < n
  · have h3 : left - (n : Int) < 0 := by omega
    go_enter Tryz.func50, Tryz.ntmps50
    go_wp2
    go_ret
    exact ⟨ret_v (by rw [bkIts, Hn.out, dec_more h2]; rfl), Ext.refl w⟩
  · have h3 : ¬ left - (n : Int) < 0 := by omega
    go_enter Tryz.func50, Tryz.ntmps50
    go_wp2
    go_loopw [1, 5] (fun d i wr => ∃ (k : Nat) (D : Int), k ≤ n ∧ i = .int .i64 k ∧ d = .int .i64 D ∧ Ext w wr ∧ 0 ≤ D ∧ D ≤ 1048576 ∧ Hid (D = left - n - ((l.take k).map bkIt).sum)) (fun _ i _ => n - (intOf i).toNat)
    case atStart => exact ⟨0, left - n, by omega, rfl, rfl, Ext.refl w, by omega, by omega, Lib.hid (by simp)⟩
    case round =>
      obtain ⟨k, D, hk, rfl, rfl, he, hD0, hD1, hD⟩ := hrel
      by_cases hlt : k < n
      · obtain ⟨x, hx⟩ := get_of_lt (l := l) (k := k) (by rw [Hn.out]; exact hlt)
        obtain ⟨b, o, rfl, hc0, hps, hc1, u, hc2, hu⟩ := HE.out k x hx
        obtain ⟨Au, cu, rfl, hU⟩ := hu
        have a0 := fun W (e : Ext wr W) => (he.trans e).cell hc0
        have a1 := fun W (e : Ext wr W) => (he.trans e).cell hc1
        have a2 := fun W (e : Ext wr W) => (he.trans e).cell hc2
        have hs := szItem_c (x := x) (left := D) wr ⟨_, rfl, hps, AInts.ext ⟨_, _, rfl, hU⟩ he⟩ hD0 hD1
        have Hs := Lib.hid hs
        have Hx := Lib.hid (bk_take hx)
        have Hb := Lib.hid (bk_take_le l (k + 1))
        have hle := dec_le (n := bkIt x) hD0 hD1
        have hd : Hid ((D < bkIt x ∧ dec D (bkIt x) = -1) ∨ (¬ D < bkIt x ∧ dec D (bkIt x) = D - bkIt x ∧ 0 ≤ D - bkIt x)) := Lib.hid (by
          by_cases h : D < bkIt x
          · exact .inl ⟨h, dec_neg h⟩
          · exact .inr ⟨h, dec_pos h, by omega⟩)
        have aa0 := a0 wr (Ext.refl _); have aa1 := a1 wr (Ext.refl _); have aa2 := a2 wr (Ext.refl _)
        clear hc0 hc1 hc2 hU hx hs a0 a1 a2
        generalize hM : bkIt x = M at *
        have HM := Lib.hid hM; clear hM
        generalize hR : dec D M = R at *
        have HR := Lib.hid hR; clear hR
        by_cases h5 : R < 0
        · go_wp2_with (go_at_call 108; refine Hs.out.mono ?_; rintro e w1 ⟨rfl, he1⟩)
          go_ret
          have hv : Value.int .i64 (-1) = .int .i64 (dec left (bkIts l)) := by
            rcases hd.out with ⟨ha, hb⟩ | ⟨ha, hb, hc⟩
            · rw [bkIts, dec_neg (by have := hD.out; have := Hx.out; have := Hb.out; have := Hn.out; omega)]
            · omega
          exact ⟨ret_v hv, he.trans he1⟩
        · go_wp2_with (go_at_call 108; refine Hs.out.mono ?_; rintro e w1 ⟨rfl, he1⟩)
          go_roundw
          case rel =>
            refine ⟨k + 1, R, by omega, by go_num, rfl, he.trans he1, by omega, hle, Lib.hid ?_⟩
            rcases hd.out with ⟨ha, hb⟩ | ⟨ha, hb, hc⟩
            · omega
            · rw [Hx.out, hb]; have := hD.out; omega
          case measure => simp [intOf]; omega
      · have hks : k = n := by omega
        subst hks
        have e : l.take k = l := List.take_of_length_le (by rw [Hn.out]; omega)
        rw [e] at hD
        go_wp2
        go_ret
        have hv : Value.int .i64 D = .int .i64 (dec left (bkIts l)) := by
          rw [bkIts, Hn.out, dec_pos (by have := hD.out; omega)]; have := hD.out; congr 1; omega
        exact ⟨ret_v hv, he⟩
end Go.Sf

/-! Copies of arguments: toIntS, toItem, toItemS make memory of the call's own, each row apart. -/
namespace Go.Sf
open Go Go.RowKit Go.Proofs
/-- `make([]T, n)`: a row of n elements, whatever they are -/
theorem run_mk {P : Program} {T t : TypeId} {sz : Nat} (el : Elem P T t sz) (n : Nat) (hn : n ≤ lim) : ∃ cs : Array Value, cs.size = n * sz ∧
    ∀ W, (Instr.makeSlice T (.int .i64 n) (.int .i64 n)).run P W = .ok (.slice (some ⟨W.heap.size, 0, none⟩) n n) (W.alloc (.cells cs t)) := by
  obtain ⟨i, z, by_, hi, hz, hsz, hby, hb128, hzs⟩ := el.info
  refine ⟨madeCells z.cells (n * i.size), by rw [size_madeCells, hsz], fun W => ?_⟩
  have hm : by_ * n ≤ 128 * n := Nat.mul_le_mul_right _ hb128
  unfold lim at hn
  have := run_make (P := P) W T t i z el.under hi hz .i64 .i64 n n (by omega) (Int.le_refl _) (by rw [hby]; rw [← Int.natCast_mul]; omega) (by omega)
  simpa using this
/-- a row of one's own: the cells ahead of k are the list's -/
def RowTo (w : World) (g : Nat) (n : Nat) (l : List Int) (k : Nat) : Prop := ∃ cs : Array Value, Blk w g 3 cs ∧ cs.size = n ∧ ∀ i x, i < k → l[i]? = some x → cs[i]? = some (.int .i64 x)
theorem RowTo.put {w W : World} {g n k : Nat} {l : List Int} {x : Int} (h : RowTo w g n l k) (e : Ext w W) (hx : l[k]? = some x) (hk : k < n) : RowTo (W.setCell ⟨g, k, none⟩ (.int .i64 x)) g n l (k + 1) := by
  obtain ⟨cs, h1, h2, h3⟩ := h
  refine ⟨_, (h1.ext e).set_ k (.int .i64 x), by simpa using h2, fun i y hi hy => ?_⟩
  rw [Array.getElem?_setIfInBounds]
  by_cases hik : k = i
  · subst hik
    rw [hx] at hy
    rw [if_pos rfl, if_pos (by omega), Option.some.inj hy]
  · rw [if_neg hik]; exact h3 i y (by omega) hy
/-- a slice in a block that the call laid -/
def NewIn (w w' : World) (u : Value) : Prop := ∃ g, u.ownBlock = some g ∧ w.heap.size ≤ g ∧ g < w'.heap.size
set_option maxRecDepth 4000 in
set_option maxHeartbeats 1000000 in
theorem toIntS_c {v : Value} {xs : List Int} (w : World) (h : AInts w v xs) (hl : xs.length ≤ lim) :
    Calls Tryz.prog 155 #[v] w (RetP (fun u w' => u = .slice (some ⟨w.heap.size, 0, none⟩) xs.length xs.length ∧ Ints w.heap.size w' u xs ∧ NewIn w w' u) w) := by
  obtain ⟨A, c, rfl, hlc, ⟨hcm, hA⟩, hel⟩ := h
  obtain ⟨cs0, hcs, hmk⟩ := run_mk el_int xs.length hl
  have hlim := Lib.hid hl
  have hin : Hid (∀ k x, xs[k]? = some x → inI x) := Lib.hid fun k x hx => by obtain ⟨b, o, _, _, h⟩ := hel k x hx; exact h
  unfold lim at hl
  have hex : ∃ n, xs.length = n := ⟨_, rfl⟩
  obtain ⟨n, hn⟩ := hex
  rw [hn] at hl hmk hcs ⊢
  have Hn := Lib.hid hn
  have HE := Lib.hid hel
  have Hcs := Lib.hid hcs
  clear hel hlc hcm hA hn hcs
  go_enter Tryz.func155, Tryz.ntmps155
  go_wp2
  clear hmk
  go_loopw [4] (fun i wr => ∃ k : Nat, k ≤ n ∧ i = .int .i64 k ∧ Ext w wr ∧ Hid (RowTo wr w.heap.size n xs k)) (fun i _ => n - (intOf i).toNat)
  case atStart => exact ⟨0, by omega, rfl, (Ext.refl w).alloc _, Lib.hid ⟨cs0, Blk.new _ _ _, by simpa using Hcs.out, fun i x hi => by omega⟩⟩
  case round =>
    obtain ⟨k, hk, rfl, he, hR⟩ := hrel
    by_cases hlt : k < n
    · obtain ⟨x, hx⟩ := get_of_lt (l := xs) (k := k) (by rw [Hn.out]; exact hlt)
      obtain ⟨b, o, rfl, hc0, hI⟩ := HE.out k x hx
      have a0 := he.cell hc0
      rw [Nat.mul_one] at a0
      have f0 : wr.frozen? ⟨w.heap.size, k, none⟩ = false := by obtain ⟨cs, h1, -⟩ := hR.out; exact h1.frozen k
      have d0 : ∃ u, wr.cell? ⟨w.heap.size, k, none⟩ = some u := by
        obtain ⟨cs, h1, h2, -⟩ := hR.out
        rw [h1.cell]; exact ⟨cs[k], by simp [h2, hlt]⟩
      obtain ⟨u0, d0⟩ := d0
      have Hx := Lib.hid hx
      clear hc0 hx
      go_wp2
      go_roundw
      case rel => exact ⟨k + 1, by omega, by go_num, he.setCell (Nat.le_refl _) _, Lib.hid (hR.out.put (Ext.refl _) Hx.out hlt)⟩
      case measure => simp [intOf]; omega
    · have hks : k = n := by omega
      subst hks
      go_wp2
      go_ret
      refine ⟨.slice (some ⟨w.heap.size, 0, none⟩) k k, rfl, ⟨rfl, ⟨some ⟨w.heap.size, 0, none⟩, k, by rw [Hn.out], by rw [Hn.out]; exact Nat.le_refl _, ⟨by unfold maxLen; omega, fun h => by cases h⟩, hlim.out, fun i x hx => ?_⟩, ⟨w.heap.size, rfl, Nat.le_refl _, by obtain ⟨cs, h1, -⟩ := hR.out; exact h1.lt⟩⟩, he⟩
      obtain ⟨cs, h1, h2, h3⟩ := hR.out
      refine ⟨w.heap.size, 0, cs, rfl, Nat.le_refl _, h1, ?_, hin.out i x hx⟩
      have := lt_of_get hx
      rw [Nat.zero_add, Nat.mul_one]
      exact h3 i x (by have := Hn.out; omega) hx
/-- an item whose slice of ids is told, too -/
def EItU (B : Nat) (w : World) (cs : Array Value) (p : Nat) (q : It × Value) : Prop :=
  cs[p]? = some (.string q.1.path) ∧ q.1.path.size < lim ∧ cs[p + 1]? = some (.bool q.1.dir) ∧ cs[p + 2]? = some q.2 ∧ Ints B w q.2 q.1.ids
def ItsU (B : Nat) (w : World) (v : Value) (l : List (It × Value)) : Prop := SlOf B 51 3 (EItU B) w v l
/-- no two of them share their ints -/
def Sep {α : Type} (l : List (α × Value)) : Prop := l.Pairwise fun a b => ∀ g, a.2.ownBlock = some g → b.2.ownBlock ≠ some g
set_option maxRecDepth 4000 in
set_option maxHeartbeats 1000000 in
theorem toItem_c {v : Value} {x : It} (w : World) (h : AItV w v x) (hps : x.path.size < lim) (hl : x.ids.length ≤ lim) :
    Calls Tryz.prog 114 #[v] w (RetP (fun r w' => ∃ u, r = .agg #[.string x.path, .bool x.dir, u] ∧ Ints w.heap.size w' u x.ids ∧ NewIn w w' u) w) := by
  obtain ⟨xp, xd, xi⟩ := x
  obtain ⟨u, rfl, -, hu⟩ := h
  simp only at hps hu hl
  have Hl := Lib.hid hl
  have HU := Lib.hid hu
  clear hu hl
  go_enter Tryz.func114, Tryz.ntmps114
  go_wp2_with fail
  refine (toIntS_c _ (HU.out.ext (by (repeat' (first | exact Ext.refl _ | assumption | refine Ext.alloc ?_ _ | refine Ext.drew ?_ | refine Ext.drewN ?_ _)))) Hl.out).mono ?_
  rintro e w4 ⟨r, rfl, ⟨rfl, hI, hN⟩, he⟩
  obtain ⟨g, hg1, hg2, hg3⟩ := hN
  simp only [World.size_alloc] at hI hg1 hg2 ⊢
  have hb2 := ((Blk.new (w.alloc (.cells #[.string xp, .bool xd, u] 155)) 51 #[.string ⟨#[]⟩, .bool false, .slice none 0 0]).alloc (.cells #[.string xp, .bool xd, .slice none 0 0] 51)).ext he
  have hb3 := (Blk.new ((w.alloc (.cells #[.string xp, .bool xd, u] 155)).alloc (.cells #[.string ⟨#[]⟩, .bool false, .slice none 0 0] 51)) 51 #[.string xp, .bool xd, .slice none 0 0]).ext he
  simp only [World.size_alloc] at hb2 hb3
  have he4 : Ext w w4 := Ext.trans (by (repeat' (first | exact Ext.refl _ | assumption | refine Ext.alloc ?_ _ | refine Ext.drew ?_ | refine Ext.drewN ?_ _))) he
  have c0 := hb3.cell 0; have c1 := hb3.cell 1; have c2 := hb3.cell 2
  have d0 := hb2.cell 0; have d1 := hb2.cell 1; have d2 := hb2.cell 2
  have f2 := hb3.frozen 2
  have g0 := hb2.frozen 0; have g1 := hb2.frozen 1; have g2 := hb2.frozen 2
  simp at c0 c1 c2 d0 d1 d2
  have HI := Lib.hid hI; have Hb2 := Lib.hid hb2; have Hb3 := Lib.hid hb3
  have Hg : Hid (∃ g, (Value.slice (some ⟨w.heap.size + 1 + 1 + 1, 0, none⟩) xi.length xi.length).ownBlock = some g ∧ w.heap.size ≤ g ∧ g < w4.heap.size) := Lib.hid ⟨g, hg1, by omega, hg3⟩
  clear hI hb2 hb3 he hg1 hg2 hg3
  have hgg : ∃ gg, w.heap.size + 1 + 1 + 1 = gg := ⟨_, rfl⟩
  obtain ⟨gg, hgg⟩ := hgg
  rw [hgg] at HI Hg ⊢
  have hge : w.heap.size ≤ gg := by omega
  clear hgg
  go_wp2
  have B2 := Hb3.out.far (p := ⟨w.heap.size + 1, 2, none⟩) (by simp) (.slice (some ⟨gg, 0, none⟩) xi.length xi.length)
  have K0 : KeepsT 51 w4 _ := KeepsT.set (i := 2) Hb3.out (.slice (some ⟨gg, 0, none⟩) xi.length xi.length) rfl
  have E0 := he4.setCell (p := ⟨w.heap.size + 1 + 1, 2, none⟩) (by simp; omega) (.slice (some ⟨gg, 0, none⟩) xi.length xi.length)
  have B1 := Hb2.out.far (p := ⟨w.heap.size + 1 + 1, 2, none⟩) (by simp) (.slice (some ⟨gg, 0, none⟩) xi.length xi.length)
  have s0 : (w4.setCell ⟨w.heap.size + 1 + 1, 2, none⟩ (.slice (some ⟨gg, 0, none⟩) xi.length xi.length)).heap.size = w4.heap.size := World.size_setCell _ _ _
  generalize w4.setCell ⟨w.heap.size + 1 + 1, 2, none⟩ (.slice (some ⟨gg, 0, none⟩) xi.length xi.length) = w5 at *
  have B3 := ((B1.set_ 0 (.string xp)).set_ 1 (.bool xd)).set_ 2 (.slice (some ⟨gg, 0, none⟩) xi.length xi.length)
  have K1 := K0.trans ((KeepsT.set (i := 0) B1 (.string xp) rfl).trans ((KeepsT.set (i := 1) (B1.set_ 0 (.string xp)) (.bool xd) rfl).trans (KeepsT.set (i := 2) ((B1.set_ 0 (.string xp)).set_ 1 (.bool xd)) (.slice (some ⟨gg, 0, none⟩) xi.length xi.length) rfl)))
  have E3 := ((E0.setCell (p := ⟨w.heap.size + 1, 0, none⟩) (by simp) (.string xp)).setCell (p := ⟨w.heap.size + 1, 1, none⟩) (by simp) (.bool xd)).setCell (p := ⟨w.heap.size + 1, 2, none⟩) (by simp) (.slice (some ⟨gg, 0, none⟩) xi.length xi.length)
  have s3 : (((w5.setCell ⟨w.heap.size + 1, 0, none⟩ (.string xp)).setCell ⟨w.heap.size + 1, 1, none⟩ (.bool xd)).setCell ⟨w.heap.size + 1, 2, none⟩ (.slice (some ⟨gg, 0, none⟩) xi.length xi.length)).heap.size = w4.heap.size := by simp [s0]
  simp at B3
  generalize ((w5.setCell ⟨w.heap.size + 1, 0, none⟩ (.string xp)).setCell ⟨w.heap.size + 1, 1, none⟩ (.bool xd)).setCell ⟨w.heap.size + 1, 2, none⟩ (.slice (some ⟨gg, 0, none⟩) xi.length xi.length) = w6 at *
  have z0 := B3.cell 0; have z1 := B3.cell 1; have z2 := B3.cell 2
  simp at z0 z1 z2
  have HI' : Ints w.heap.size w6 (.slice (some ⟨gg, 0, none⟩) xi.length xi.length) xi := SlOf.mono (SlOf.keepT (show SlOf _ _ _ _ w4 (.slice (some ⟨gg, 0, none⟩) xi.length xi.length) xi from HI.out) K1 (by decide) (fun _ _ _ h => h)) hge (fun _ _ _ => rfl) (fun _ _ _ h => h)
  exact bodyPost_ret (v := .agg #[.string xp, .bool xd, (.slice (some ⟨gg, 0, none⟩) xi.length xi.length)]) (by simp [results, Tryz.results114, go_sem, z0, z1, z2]) rfl ⟨_, rfl, ⟨_, rfl, HI', by obtain ⟨g, h1, h2, h3⟩ := Hg.out; exact ⟨g, h1, h2, by rw [s3]; exact h3⟩⟩, E3⟩
/-- a row of items of the call's own at g: the first k are there -/
def RowItU (w : World) (g n : Nat) (l : List It) (k : Nat) : Prop := ∃ (lu : List (It × Value)) (cs : Array Value), lu.length = k ∧ lu.map Prod.fst = l.take k ∧ Blk w g 51 cs ∧ cs.size = n * 3 ∧
  (∀ i q, lu[i]? = some q → EItU g w cs (i * 3) q) ∧ Sep lu ∧ ∀ q, q ∈ lu → ∃ b, q.2.ownBlock = some b ∧ b < w.heap.size
theorem Sep.snoc {α : Type} {l : List (α × Value)} {q : α × Value} (h : Sep l) (hq : ∀ p, p ∈ l → ∀ g, p.2.ownBlock = some g → q.2.ownBlock ≠ some g) : Sep (l ++ [q]) := by
  unfold Sep at h ⊢
  rw [List.pairwise_append]
  exact ⟨h, List.pairwise_singleton _ _, fun a ha b hb => by rw [List.mem_singleton] at hb; subst hb; exact hq a ha⟩
theorem EItU.keepT {B : Nat} {t : TypeId} {w w' : World} {cs : Array Value} {p : Nat} {q : It × Value} (h : EItU B w cs p q) (hk : KeepsT t w w') (ht : 3 ≠ t) : EItU B w' cs p q :=
  let ⟨h1, h2, h3, h4, h5⟩ := h; ⟨h1, h2, h3, h4, h5.keepT hk ht⟩
theorem EItU.keep {B B' : Nat} {w w' : World} {cs : Array Value} {p : Nat} {q : It × Value} (h : EItU B w cs p q) (hB : B' ≤ B) (hk : Keeps B w w') : EItU B' w' cs p q :=
  let ⟨h1, h2, h3, h4, h5⟩ := h; ⟨h1, h2, h3, h4, h5.keep hB hk⟩
theorem EItU.loc {B : Nat} {w : World} {cs cs' : Array Value} {p p' : Nat} {q : It × Value} (h : EItU B w cs p q) (hj : ∀ j, j < 3 → cs'[p' + j]? = cs[p + j]?) : EItU B w cs' p' q := by
  obtain ⟨h1, h2, h3, h4, h5⟩ := h
  have j0 := hj 0 (by omega); have j1 := hj 1 (by omega); have j2 := hj 2 (by omega)
  simp only [Nat.add_zero] at j0
  exact ⟨j0.trans h1, h2, j1.trans h3, j2.trans h4, h5⟩
theorem EItU_ok (B : Nat) : ElOk 51 3 (EItU B) := ⟨fun _ _ _ _ _ hk h => h.keepT hk (by decide), fun _ _ _ _ _ _ hj h => h.loc hj, fun _ _ _ _ ⟨h1, _, h3, h4, h5⟩ j hj => match j, hj with
  | 0, _ => ⟨_, h1, rfl⟩
  | 1, _ => ⟨_, h3, rfl⟩
  | 2, _ => ⟨_, h4, h5.one⟩⟩
theorem ItsU.its {B : Nat} {w : World} {v : Value} {lu : List (It × Value)} (h : ItsU B w v lu) : Its B w v (lu.map Prod.fst) := by
  obtain ⟨A, c, rfl, h1, h2, h3, h4⟩ := h
  refine ⟨A, c, by rw [List.length_map], by rw [List.length_map]; exact h1, h2, by rw [List.length_map]; exact h3, fun k x hx => ?_⟩
  rw [List.getElem?_map, Option.map_eq_some_iff] at hx
  obtain ⟨q, hq, rfl⟩ := hx
  obtain ⟨b, o, cs, e1, e2, e3, f1, f2, f3, f4, f5⟩ := h4 k q hq
  exact ⟨b, o, cs, e1, e2, e3, f1, f2, f3, ⟨_, f4, f5⟩⟩
theorem ItsU.keep {B B' : Nat} {w w' : World} {v : Value} {lu : List (It × Value)} (h : ItsU B w v lu) (hB : B' ≤ B) (hk : Keeps B w w') : ItsU B' w' v lu := SlOf.mono h hB hk fun _ _ _ e => e.keep hB hk
theorem ItsU.ext {B : Nat} {w w' : World} {v : Value} {lu : List (It × Value)} (h : ItsU B w v lu) (e : Ext w w') : ItsU B w' v lu := h.keep (Nat.le_refl _) (e.keeps _)
theorem RowItU.put {w W : World} {g n k : Nat} {l : List It} {x : It} {u : Value} (h : RowItU w g n l k) (e : Ext w W) (hx : l[k]? = some x) (hk : k < n) (hps : x.path.size < lim) (hu : Ints w.heap.size W u x.ids) (hN : NewIn w W u) :
    RowItU (((W.setCell ⟨g, k * 3, none⟩ (.string x.path)).setCell ⟨g, k * 3 + 1, none⟩ (.bool x.dir)).setCell ⟨g, k * 3 + 2, none⟩ u) g n l (k + 1) := by
  obtain ⟨lu, cs, h1, h2, h3, h4, h5, h6, h7⟩ := h
  have hg := h3.lt
  have B0 := h3.ext e
  have B1 := B0.set_ (k * 3) (.string x.path)
  have B2 := B1.set_ (k * 3 + 1) (.bool x.dir)
  have B3 := B2.set_ (k * 3 + 2) u
  have K := (KeepsT.set (i := k * 3) B0 (.string x.path) rfl).trans ((KeepsT.set (i := k * 3 + 1) B1 (.bool x.dir) rfl).trans (KeepsT.set (i := k * 3 + 2) B2 u rfl))
  refine ⟨lu ++ [(x, u)], _, by simp [h1], by rw [List.map_append, h2, List.take_add_one, hx]; rfl, B3, by simpa using h4, ?_, ?_, ?_⟩
  · intro i q hq
    have cell : ∀ j, (((cs.setIfInBounds (k * 3) (.string x.path)).setIfInBounds (k * 3 + 1) (.bool x.dir)).setIfInBounds (k * 3 + 2) u)[j]? = if j = k * 3 + 2 then some u else if j = k * 3 + 1 then some (.bool x.dir) else if j = k * 3 then some (.string x.path) else cs[j]? := fun j => by
      simp only [Array.getElem?_setIfInBounds, Array.size_setIfInBounds]
      by_cases q2 : j = k * 3 + 2
      · subst q2; rw [if_pos rfl, if_pos (by omega), if_pos rfl]
      · rw [if_neg (fun h => q2 h.symm), if_neg q2]
        by_cases q1 : j = k * 3 + 1
        · subst q1; rw [if_pos rfl, if_pos (by omega), if_pos rfl]
        · rw [if_neg (fun h => q1 h.symm), if_neg q1]
          by_cases q0 : j = k * 3
          · subst q0; rw [if_pos rfl, if_pos (by omega), if_pos rfl]
          · rw [if_neg (fun h => q0 h.symm), if_neg q0]
    rcases Nat.lt_or_ge i k with hik | hik
    · rw [List.getElem?_append_left (by omega)] at hq
      refine (((h5 i q hq).keep (Nat.le_refl _) (e.keeps _)).keepT K (by decide)).loc fun j hj => ?_
      rw [cell, if_neg (by omega), if_neg (by omega), if_neg (by omega)]
    · rw [List.getElem?_append_right (by omega), h1] at hq
      have hik' : i = k := by
        have := lt_of_get hq
        simp at this; omega
      subst hik'
      simp at hq
      subst hq
      refine ⟨?_, hps, ?_, ?_, (hu.keep (Nat.le_of_lt hg) (fun _ _ _ => rfl)).keepT K (by decide)⟩
      · rw [cell, if_neg (by omega), if_neg (by omega), if_pos rfl]
      · rw [cell, if_neg (by omega), if_pos rfl]
      · rw [cell, if_pos rfl]
  · obtain ⟨b, hb1, hb2, hb3⟩ := hN
    refine h6.snoc fun p hp g' hg' hq => ?_
    obtain ⟨b', hb', hlt⟩ := h7 p hp
    rw [hb'] at hg'
    simp only at hq
    rw [hb1] at hq
    have := Option.some.inj hg'; have := Option.some.inj hq
    omega
  · intro q hq
    have hsz : (((W.setCell ⟨g, k * 3, none⟩ (.string x.path)).setCell ⟨g, k * 3 + 1, none⟩ (.bool x.dir)).setCell ⟨g, k * 3 + 2, none⟩ u).heap.size = W.heap.size := by simp
    rw [hsz]
    rw [List.mem_append, List.mem_singleton] at hq
    rcases hq with hq | rfl
    · obtain ⟨b, hb, hlt⟩ := h7 q hq
      exact ⟨b, hb, Nat.lt_of_lt_of_le hlt e.size⟩
    · obtain ⟨b, hb1, hb2, hb3⟩ := hN
      exact ⟨b, hb1, hb3⟩
set_option maxRecDepth 4000 in
set_option maxHeartbeats 1000000 in
theorem toItemS_c {v : Value} {l : List It} (w : World) (h : AIts w v l) (hb : bkIts l ≤ 1048576) :
    Calls Tryz.prog 56 #[v] w (RetP (fun u w' => ∃ lu, lu.map Prod.fst = l ∧ ItsU w.heap.size w' u lu ∧ Sep lu) w) := by
  obtain ⟨A, c, rfl, hlc, ⟨hcm, hA⟩, hel⟩ := h
  have hl : l.length ≤ 1048576 := by unfold bkIts at hb; omega
  have hbd : Hid (∀ (k : Nat) (x : It), l[k]? = some x → x.path.size < lim ∧ x.ids.length ≤ lim) := Lib.hid fun k x hx => by
    have h1 := bk_take_le l (k + 1)
    rw [bk_take hx] at h1
    have hbk : bkIt x = x.path.size + x.ids.length := rfl
    unfold bkIts at hb; unfold lim; omega
  have hlim : Hid (l.length ≤ lim) := Lib.hid (by unfold lim; omega)
  obtain ⟨cs0, hcs, hmk⟩ := run_mk el_It l.length hlim.out
  have hex : ∃ n, l.length = n := ⟨_, rfl⟩
  obtain ⟨n, hn⟩ := hex
  rw [hn] at hl hmk hcs ⊢
  have Hn := Lib.hid hn
  have HE := Lib.hid hel
  have Hcs := Lib.hid hcs
  clear hel hlc hcm hA hn hcs hb
  go_enter Tryz.func56, Tryz.ntmps56
  go_wp2
  clear hmk
  go_loopw [4] (fun i wr => ∃ k : Nat, k ≤ n ∧ i = .int .i64 k ∧ Ext w wr ∧ Hid (RowItU wr w.heap.size n l k)) (fun i _ => n - (intOf i).toNat)
  case atStart => exact ⟨0, by omega, rfl, (Ext.refl w).alloc _, Lib.hid ⟨[], cs0, rfl, rfl, Blk.new _ _ _, Hcs.out, fun i x hi => by simp at hi, List.Pairwise.nil, fun q hq => by simp at hq⟩⟩
  case round =>
    obtain ⟨k, hk, rfl, he, hR⟩ := hrel
    by_cases hlt : k < n
    · obtain ⟨x, hx⟩ := get_of_lt (l := l) (k := k) (by rw [Hn.out]; exact hlt)
      obtain ⟨b, o, rfl, hc0, hps, hc1, u, hc2, hu⟩ := HE.out k x hx
      obtain ⟨hp1, hp2⟩ := hbd.out k x hx
      obtain ⟨Au, cu, rfl, hU⟩ := hu
      have Hs := Lib.hid (toItem_c (x := x) wr ⟨_, rfl, hps, AInts.ext ⟨_, _, rfl, hU⟩ he⟩ hp1 hp2)
      have a0 := he.cell hc0; have a1 := he.cell hc1; have a2 := he.cell hc2
      have Hx := Lib.hid hx; have Hp1 := Lib.hid hp1
      clear hc0 hc1 hc2 hU hx hps hp1 hp2
      go_wp2_with fail
      refine Hs.out.mono ?_
      rintro e w1 ⟨r, rfl, ⟨u, rfl, hu, hN⟩, he1⟩
      have ff := fun i => show w1.frozen? ⟨w.heap.size, i, none⟩ = false from by obtain ⟨lu, cs, -, -, h1, -⟩ := hR.out; exact (h1.ext he1).frozen i
      have dd : ∀ i, i < n * 3 → ∃ u, w1.cell? ⟨w.heap.size, i, none⟩ = some u := fun i hi => by
        obtain ⟨lu, cs, -, -, h1, h2, -⟩ := hR.out
        rw [(h1.ext he1).cell]; exact ⟨cs[i], by simp [h2, hi]⟩
      obtain ⟨z0, d0⟩ := dd (k * 3) (by omega); obtain ⟨z1, d1⟩ := dd (k * 3 + 1) (by omega); obtain ⟨z2, d2⟩ := dd (k * 3 + 2) (by omega)
      have f0 := ff (k * 3); have f1 := ff (k * 3 + 1); have f2 := ff (k * 3 + 2)
      have Hu := Lib.hid hu; have HN := Lib.hid hN
      obtain ⟨A2, c2, rfl, -⟩ := hu
      clear ff dd hN a0 a1 a2
      go_wp2
      go_roundw
      case rel => exact ⟨k + 1, by omega, by go_num, (((he.trans he1).setCell (Nat.le_refl _) _).setCell (Nat.le_refl _) _).setCell (Nat.le_refl _) _, Lib.hid (hR.out.put he1 Hx.out hlt Hp1.out Hu.out HN.out)⟩
      case measure => simp [intOf]; omega
    · have hks : k = n := by omega
      subst hks
      go_wp2
      go_ret
      obtain ⟨lu, cs, h1, h2, h3, h4, h5, h6, h7⟩ := hR.out
      refine ⟨.slice (some ⟨w.heap.size, 0, none⟩) k k, rfl, ⟨lu, by rw [h2]; exact List.take_of_length_le (by rw [Hn.out]; omega), ⟨some ⟨w.heap.size, 0, none⟩, k, by rw [h1], by rw [h1]; exact Nat.le_refl _, ⟨by unfold maxLen; omega, fun h => by cases h⟩, by rw [h1]; unfold lim; omega, fun i x hx => ?_⟩, h6⟩, he⟩
      refine ⟨w.heap.size, 0, cs, rfl, Nat.le_refl _, h3, ?_⟩
      rw [Nat.zero_add]
      exact h5 i x hx
end Go.Sf

/-! The marks that the exact laws write: their texts. -/
namespace Go.Sf
open Go Go.RowKit Go.Proofs
def decs : Nat → Nat → ByteArray → ByteArray
  | 0, _, s => s
  | f + 1, n, s => if n = 0 then s else decs f (n / 10) ((⟨#[UInt8.ofNat (48 + n % 10)]⟩ : ByteArray) ++ s)
/-- the text of a mark -/
def mt (k : Int) : ByteArray := if k ≤ 0 then ⟨#[109, 48]⟩ else (⟨#[109]⟩ : ByteArray) ++ decs 20 k.toNat ⟨#[]⟩
theorem decs_size : ∀ (f n : Nat) (s : ByteArray), (decs f n s).size ≤ s.size + f := by
  intro f
  induction f with
  | zero => intro n s; exact Nat.le_refl _
  | succ f ih =>
    intro n s
    rw [decs]
    split
    · omega
    · refine Nat.le_trans (ih _ _) ?_
      simp only [ByteArray.size_append]
      show 1 + s.size + f ≤ _
      omega
theorem mt_size (k : Int) : (mt k).size < lim := by
  unfold mt lim
  split
  · show 2 < _; omega
  · have := decs_size 20 k.toNat ⟨#[]⟩
    simp only [ByteArray.size_append]
    show 1 + _ < _
    have h0 : (⟨#[]⟩ : ByteArray).size = 0 := rfl
    omega
theorem decs_zero (f : Nat) (t : ByteArray) : decs f 0 t = t := by cases f <;> rfl
theorem byte_text (d : Nat) (hd : d < 10) (W : World) : (convert 42 9 (.slice (some ⟨W.heap.size, 0, none⟩) 1 1)).run Tryz.prog (W.alloc (.cells #[.int .u8 (48 + (d : Int))] 5)) = .ok (.string ⟨#[UInt8.ofNat (48 + d)]⟩) (W.alloc (.cells #[.int .u8 (48 + (d : Int))] 5)) := by
  refine Lib.run_convert_whole (P := Tryz.prog) _ 42 5 9 Tryz.underlying42 Tryz.underlying5 Tryz.underlying9 W.heap.size 0 ⟨#[UInt8.ofNat (48 + d)]⟩ ?_ 1
  intro i hi
  have h0 : i = 0 := by
    have : (⟨#[UInt8.ofNat (48 + d)]⟩ : ByteArray).size = 1 := rfl
    omega
  subst h0
  rw [Nat.zero_add, (Blk.new W _ _).cell]
  show some (Value.int .u8 (48 + (d : Int))) = some (.int .u8 ((UInt8.ofNat (48 + d)).toNat : Int))
  rw [UInt8.toNat_ofNat']
  congr 2
  omega
set_option maxRecDepth 4000 in
set_option maxHeartbeats 1000000 in
theorem markText_c (k : Int) (w : World) (h1 : 1 ≤ k) (h2 : k ≤ 4611686018427387904) : Calls Tryz.prog 69 #[.int .i64 k] w (Ret (.string (mt k)) w) := by
  have h0 : ¬ k ≤ 0 := by omega
  have Hm : Hid (mt k = (⟨#[109]⟩ : ByteArray) ++ decs 20 k.toNat ⟨#[]⟩) := Lib.hid (if_neg h0)
  go_enter Tryz.func69, Tryz.ntmps69
  go_wp2
  go_loopw [0, 3] (fun a s wr => ∃ (m f : Nat) (t : ByteArray), a = .int .i64 m ∧ s = .string t ∧ m ≤ 4611686018427387904 ∧ t.size + f ≤ 20 ∧ Ext w wr ∧ Hid (m < 10 ^ f ∧ decs f m t = decs 20 k.toNat ⟨#[]⟩)) (fun a _ _ => (intOf a).toNat)
  case atStart => exact ⟨k.toNat, 20, ⟨#[]⟩, by congr 1; omega, rfl, by omega, by decide, Ext.refl w, Lib.hid ⟨by rw [show (10:Nat) ^ 20 = 100000000000000000000 by decide]; omega, rfl⟩⟩
  case round =>
    obtain ⟨m, f, t, rfl, rfl, hm, hsz, he, hD⟩ := hrel
    by_cases hp : m = 0
    · subst hp
      go_wp2
      go_ret
      have hv : Value.string ((⟨#[109]⟩ : ByteArray) ++ t) = .string (mt k) := by rw [Hm.out, ← hD.out.2, decs_zero]
      exact ⟨ret_v hv, he⟩
    · have hcv := byte_text (m % 10) (by omega)
      have em : ((m % 10 : Nat) : Int) = (m : Int) % 10 := by omega
      simp only [em] at hcv
      have hf : ∃ f', f = f' + 1 := by
        cases f with
        | zero => have := hD.out.1; simp at this; omega
        | succ f' => exact ⟨f', rfl⟩
      obtain ⟨f', rfl⟩ := hf
      have hst : Hid (m / 10 < 10 ^ f' ∧ decs f' (m / 10) ((⟨#[UInt8.ofNat (48 + m % 10)]⟩ : ByteArray) ++ t) = decs 20 k.toNat ⟨#[]⟩) := Lib.hid ⟨by
        have := hD.out.1
        rw [Nat.pow_succ] at this
        omega, by rw [← hD.out.2, decs, if_neg hp]⟩
      clear hD em
      have hbb : ∃ bb, UInt8.ofNat (48 + m % 10) = bb := ⟨_, rfl⟩
      obtain ⟨bb, hbb⟩ := hbb
      simp only [hbb] at hcv hst
      clear hbb
      have hz1 : (⟨#[bb]⟩ : ByteArray).size = 1 := rfl
      go_wp2
      go_roundw
      case rel => exact ⟨m / 10, f', _, by go_num, rfl, by omega, by rw [ByteArray.size_append, hz1]; omega, he.alloc _, hst⟩
      case measure => simp [intOf]; omega
end Go.Sf

/-! Rows of the call's own are marked: markIntS, markItemS; what they leave alone. -/
namespace Go.Sf
open Go Go.RowKit Go.Proofs
/-- nothing but the blocks in S has changed; new ones may have come -/
def Mod (S : Nat → Prop) (w w' : World) : Prop := (w'.os = w.os ∧ w'.tape = w.tape ∧ w'.output = w.output) ∧ w.heap.size ≤ w'.heap.size ∧ ∀ b, b < w.heap.size → ¬ S b → w'.heap[b]? = w.heap[b]?
section
variable {S S' : Nat → Prop} {w w' w'' w0 : World}
theorem Ext.mod (h : Ext w w') (S : Nat → Prop) : Mod S w w' := ⟨⟨Below.os h, Below.tape h, Below.output h⟩, h.size, fun _ hb _ => h.block hb⟩
theorem Mod.refl (S : Nat → Prop) (w : World) : Mod S w w := (Ext.refl w).mod S
theorem Mod.trans (h : Mod S w w') (k : Mod S w' w'') : Mod S w w'' :=
  ⟨⟨k.1.1.trans h.1.1, k.1.2.1.trans h.1.2.1, k.1.2.2.trans h.1.2.2⟩, Nat.le_trans h.2.1 k.2.1, fun b hb hs => (k.2.2 b (Nat.lt_of_lt_of_le hb h.2.1) hs).trans (h.2.2 b hb hs)⟩
theorem Mod.mono (h : Mod S w w') (hs : ∀ b, S b → S' b) : Mod S' w w' := ⟨h.1, h.2.1, fun b hb hn => h.2.2 b hb fun h => hn (hs b h)⟩
theorem Mod.size (h : Mod S w w') : w.heap.size ≤ w'.heap.size := h.2.1
theorem Mod.keeps {B : Nat} (h : Mod S w w') (hs : ∀ b, S b → b < B) : Keeps B w w' := fun b hB hb => h.2.2 b hb fun k => by have := hs b k; omega
theorem Mod.ext (h : Mod S w w') (h0 : Ext w0 w) (hs : ∀ b, S b → w0.heap.size ≤ b) : Ext w0 w' :=
  ⟨h.1.1.trans (Below.os h0 : w.os = w0.os), h.1.2.1.trans (Below.tape h0 : w.tape = w0.tape), h.1.2.2.trans (Below.output h0 : w.output = w0.output), Nat.le_trans h0.size h.2.1, fun b hb => (h.2.2 b (Nat.lt_of_lt_of_le hb h0.size) (fun k => by have := hs b k; omega)).trans (h0.block hb)⟩
theorem Mod.set {p : Addr} (hp : S p.block) (u : Value) : Mod S w (w.setCell p u) :=
  ⟨⟨rfl, rfl, rfl⟩, by simp [World.setCell], fun k _ hk => Below.heap_setCell w p u k fun e => hk (e ▸ hp)⟩
theorem Mod.blk (h : Mod S w w') {b : Nat} {t : TypeId} {cs : Array Value} (hb : Blk w b t cs) (hs : ¬ S b) : Blk w' b t cs := (h.2.2 b hb.lt hs).trans hb
end
theorem SlIn.mod {α : Type} {B : Nat} {t : TypeId} {sz : Nat} {E E' : World → Array Value → Nat → α → Prop} {S : Nat → Prop} {w w' : World} {A : Option Addr} {c : Nat} {l : List α} (h : SlIn B t sz E w A c l) (hm : Mod S w w')
    (hs : ∀ b o, A = some ⟨b, o, none⟩ → ¬ S b) (hE : ∀ (k : Nat) (x : α) (cs : Array Value) (p : Nat), l[k]? = some x → E w cs p x → E' w' cs p x) : SlIn B t sz E' w' A c l :=
  ⟨h.1, h.2.1, h.2.2.1, fun k x hx => let ⟨b, o, cs, e1, e2, e3, e4⟩ := h.2.2.2 k x hx; ⟨b, o, cs, e1, e2, hm.blk e3 (hs b o e1), hE k x _ _ hx e4⟩⟩
theorem Blk.inj {w : World} {b : Nat} {t t' : TypeId} {cs cs' : Array Value} (h : Blk w b t cs) (h' : Blk w b t' cs') : cs = cs' := by
  unfold Blk at h h'
  rw [h] at h'
  simp only [Option.some.injEq, Obj.cells.injEq] at h'
  exact h'.1
/-- block b holds the ints xs of the slice u -/
def Own (u : Value) (xs : List Int) (b : Nat) : Prop := u.ownBlock = some b ∧ xs ≠ []
theorem Ints.own {B : Nat} {w : World} {u : Value} {xs : List Int} (h : Ints B w u xs) {b : Nat} (ho : Own u xs b) : B ≤ b ∧ ∃ cs, Blk w b 3 cs := by
  obtain ⟨A, c, rfl, -, -, -, h⟩ := h
  obtain ⟨ho, hn⟩ := ho
  cases xs with
  | nil => exact absurd rfl hn
  | cons x xs =>
    obtain ⟨b', o', cs, rfl, h1, h2, -⟩ := h 0 x rfl
    simp only [Value.ownBlock, Option.some.injEq] at ho
    subst ho
    exact ⟨h1, cs, h2⟩
theorem Ints.mod {B : Nat} {S : Nat → Prop} {w w' : World} {u : Value} {xs : List Int} (h : Ints B w u xs) (hm : Mod S w w') (hs : ∀ b, Own u xs b → ¬ S b) : Ints B w' u xs := by
  obtain ⟨A, c, rfl, h⟩ := h
  exact ⟨A, c, rfl, h.1, h.2.1, h.2.2.1, fun k x hx => let ⟨b, o, cs, e1, e2, e3, e4⟩ := h.2.2.2 k x hx; ⟨b, o, cs, e1, e2, hm.blk e3 (hs b ⟨by rw [e1]; rfl, fun e => by rw [e] at hx; simp at hx⟩), e4⟩⟩
/-- one element of a row turns -/
theorem SlIn.upd {α : Type} {B : Nat} {t : TypeId} {sz : Nat} {E : World → Array Value → Nat → α → Prop} {w w' : World} {b o c j : Nat} {L : List α} {x y : α} (h : SlIn B t sz E w (some ⟨b, o, none⟩) c L) (hj : L[j]? = some x)
    (hw : ∀ cs, Blk w b t cs → E w cs (o + j * sz) x → ∃ cs', Blk w' b t cs' ∧ E w' cs' (o + j * sz) y ∧ ∀ i z, i ≠ j → L[i]? = some z → E w cs (o + i * sz) z → E w' cs' (o + i * sz) z) :
    SlIn B t sz E w' (some ⟨b, o, none⟩) c (L.set j y) := by
  obtain ⟨h1, h2, h3, h4⟩ := h
  obtain ⟨b', o', cs, e1, hB, hb, he⟩ := h4 j x hj
  simp only [Option.some.injEq, Addr.mk.injEq, and_true] at e1
  obtain ⟨rfl, rfl⟩ := e1
  obtain ⟨cs', hb', hy, hz⟩ := hw cs hb he
  refine ⟨by simpa using h1, h2, by simpa using h3, fun k z hk => ⟨b, o, cs', rfl, hB, hb', ?_⟩⟩
  rw [List.getElem?_set] at hk
  by_cases hjk : j = k
  · subst hjk
    rw [if_pos rfl, if_pos (lt_of_get hj)] at hk
    rw [← Option.some.inj hk]; exact hy
  · rw [if_neg hjk] at hk
    obtain ⟨b2, o2, cs2, e2, -, hb2, he2⟩ := h4 k z hk
    simp only [Option.some.injEq, Addr.mk.injEq, and_true] at e2
    obtain ⟨rfl, rfl⟩ := e2
    have : cs2 = cs := by
      unfold Blk at hb hb2
      rw [hb] at hb2
      simp only [Option.some.injEq, Obj.cells.injEq] at hb2
      exact hb2.1.symm
    subst this
    exact hz k z (fun e => hjk e.symm) hk he2
theorem set_mid {α : Type} {a r : List α} {x y : α} {j : Nat} (hj : a.length = j) : (a ++ x :: r).set j y = a ++ y :: r := by
  rw [List.set_append_right _ _ (by omega), hj, Nat.sub_self]; rfl
/-! ### ints -/
def mkInts (k : Int) (n : Nat) : List Int := (List.range n).map fun i => k + (i : Nat)
theorem mkInts_len (k : Int) (n : Nat) : (mkInts k n).length = n := by simp [mkInts]
theorem mkInts_succ (k : Int) (n : Nat) : mkInts k (n + 1) = mkInts k n ++ [k + (n : Nat)] := by simp [mkInts, List.range_succ]
/-- what a call leaves that turns blocks of S and hands v back -/
def RetM (S : Nat → Prop) (v : Value) (R : World → Prop) (w : World) (e : Ending) (w' : World) : Prop := e = .returned v ∧ R w' ∧ Mod S w w'
set_option maxRecDepth 4000 in
set_option maxHeartbeats 1000000 in
theorem markIntS_c {B : Nat} {u : Value} {xs : List Int} {k : Int} (w : World) (h : Ints B w u xs) (h0 : 0 ≤ k) (h1 : k ≤ 2305843009213693951) :
    Calls Tryz.prog 70 #[u, .int .i64 k] w (RetM (Own u xs) (.int .i64 (k + (xs.length : Nat))) (fun w' => Ints B w' u (mkInts k xs.length)) w) := by
  obtain ⟨A, c, rfl, hA⟩ := h
  have hl := hA.2.2.1
  unfold lim at hl
  have hex : ∃ n, xs.length = n := ⟨_, rfl⟩
  obtain ⟨n, hn⟩ := hex
  rw [hn] at hl ⊢
  have Hn := Lib.hid hn
  have HA := Lib.hid hA
  clear hA hn
  go_enter Tryz.func70, Tryz.ntmps70
  go_wp2
  go_loopw [1, 5] (fun q i wr => ∃ j : Nat, j ≤ n ∧ i = .int .i64 j ∧ q = .int .i64 (k + (j : Nat)) ∧ Hid (SlIn B 3 1 EInt wr A c (mkInts k j ++ xs.drop j)) ∧ Hid (Mod (Own (Value.slice A n c) xs) w wr)) (fun _ i _ => n - (intOf i).toNat)
  case atStart => exact ⟨0, by omega, rfl, by simp, Lib.hid (by simpa [mkInts] using HA.out), Lib.hid (Mod.refl _ _)⟩
  case round =>
    obtain ⟨j, hj, rfl, rfl, hS, hM⟩ := hrel
    by_cases hlt : j < n
    · obtain ⟨x, hx⟩ := get_of_lt (l := xs) (k := j) (by rw [Hn.out]; exact hlt)
      have hL : (mkInts k j ++ xs.drop j)[j]? = some x := by
        rw [List.getElem?_append_right (by rw [mkInts_len]; exact Nat.le_refl _), mkInts_len, Nat.sub_self, List.getElem?_drop]; simpa using hx
      obtain ⟨b, o, cs, rfl, hB, hb, hE⟩ := hS.out.2.2.2 j x hL
      rw [Nat.mul_one] at hE
      have d0 := (hb.cell (o + j)).trans hE.1
      have f0 := hb.frozen (o + j)
      have hup : Hid (SlIn B 3 1 EInt (wr.setCell ⟨b, o + j, none⟩ (.int .i64 (k + (j : Nat)))) (some ⟨b, o, none⟩) c (mkInts k (j + 1) ++ xs.drop (j + 1))) := Lib.hid (by
        have hd := drop_cons hx
        have e : mkInts k (j + 1) ++ xs.drop (j + 1) = (mkInts k j ++ xs.drop j).set j (k + (j : Nat)) := by
          rw [mkInts_succ, hd, List.append_assoc, set_mid (mkInts_len k j)]; rfl
        rw [e]
        refine SlIn.upd hS.out hL fun cs2 hb2 he2 => ⟨_, hb2.set_ (o + j) (.int .i64 (k + (j : Nat))), ⟨?_, by unfold inI; omega⟩, fun i z hi hz hez => ⟨?_, hez.2⟩⟩
        · have := (Array.getElem?_eq_some_iff.1 he2.1).1
          rw [Nat.mul_one] at this ⊢
          rw [Array.getElem?_setIfInBounds, if_pos rfl, if_pos this]
        · rw [Array.getElem?_setIfInBounds, if_neg (by omega)]; exact hez.1)
      have hM2 : Hid (Mod (Own (Value.slice (some ⟨b, o, none⟩) n c) xs) w (wr.setCell ⟨b, o + j, none⟩ (.int .i64 (k + (j : Nat))))) := Lib.hid (hM.out.trans (Mod.set (S := Own (Value.slice (some ⟨b, o, none⟩) n c) xs) (p := ⟨b, o + j, none⟩) ⟨rfl, fun e => by rw [e] at hx; simp at hx⟩ _))
      clear hx hL hb hE hS hM
      go_wp2
      go_roundw
      case rel => exact ⟨j + 1, by omega, by go_num, by go_num, hup, hM2⟩
      case measure => simp [intOf]; omega
    · have hjs : j = n := by omega
      subst hjs
      have hS2 : Hid (SlIn B 3 1 EInt wr A c (mkInts k j)) := Lib.hid (by have := hS.out; rwa [List.drop_eq_nil_of_le (by rw [Hn.out]; exact Nat.le_refl _), List.append_nil] at this)
      clear hS
      go_wp2
      go_ret
      exact ⟨rfl, ⟨A, c, by rw [mkInts_len], hS2.out⟩, hM.out⟩
/-! ### items -/
def wIt (x : It) : Nat := 2 + x.ids.length
def cIts (l : List It) : Nat := (l.map wIt).sum
def mkIt (k : Int) (x : It) : It := ⟨mt k, ((k + 1) % 3 == 0), mkInts (k + 1 + 1) x.ids.length⟩
def mkItsU : Int → List (It × Value) → List (It × Value)
  | _, [] => []
  | k, q :: r => (mkIt k q.1, q.2) :: mkItsU (k + (wIt q.1 : Nat)) r
def mkIts : Int → List It → List It
  | _, [] => []
  | k, x :: r => mkIt k x :: mkIts (k + (wIt x : Nat)) r
theorem mkItsU_fst : ∀ (k : Int) (l : List (It × Value)), (mkItsU k l).map Prod.fst = mkIts k (l.map Prod.fst) := by
  intro k l
  induction l generalizing k with
  | nil => rfl
  | cons q r ih => rw [mkItsU, List.map_cons, List.map_cons, mkIts, ih]
theorem mkItsU_len (k : Int) (l : List (It × Value)) : (mkItsU k l).length = l.length := by
  induction l generalizing k with
  | nil => rfl
  | cons q r ih => rw [mkItsU, List.length_cons, List.length_cons, ih]
theorem mkItsU_snd (k : Int) (l : List (It × Value)) : (mkItsU k l).map Prod.snd = l.map Prod.snd := by
  induction l generalizing k with
  | nil => rfl
  | cons q r ih => rw [mkItsU, List.map_cons, List.map_cons, ih]
theorem mkItsU_snoc (k : Int) (l : List (It × Value)) (q : It × Value) : mkItsU k (l ++ [q]) = mkItsU k l ++ [(mkIt (k + (cIts (l.map Prod.fst) : Nat)) q.1, q.2)] := by
  induction l generalizing k with
  | nil => simp [mkItsU, cIts]
  | cons p r ih =>
    rw [List.cons_append, mkItsU, ih, mkItsU, List.cons_append]
    have e : k + (wIt p.1 : Nat) + (cIts (r.map Prod.fst) : Nat) = k + (cIts ((p :: r).map Prod.fst) : Nat) := by
      simp only [cIts, List.map_cons, List.sum_cons, Int.natCast_add]; omega
    rw [e]
theorem cIts_take {l : List It} {j : Nat} {x : It} (h : l[j]? = some x) : cIts (l.take (j + 1)) = cIts (l.take j) + wIt x := by
  unfold cIts; rw [List.take_add_one, h]; simp
theorem cIts_take_le (l : List It) (j : Nat) : cIts (l.take j) ≤ cIts l := by
  unfold cIts
  conv => rhs; rw [← List.take_append_drop j l]
  rw [List.map_append, List.sum_append]; omega
/-- the blocks that a row of items and their ids lie in -/
def FootIt (v : Value) (l : List (It × Value)) (b : Nat) : Prop := (v.ownBlock = some b ∧ l ≠ []) ∨ ∃ q, q ∈ l ∧ Own q.2 q.1.ids b
theorem ItsU.foot {B : Nat} {w : World} {v : Value} {l : List (It × Value)} (h : ItsU B w v l) {b : Nat} (hf : FootIt v l b) : B ≤ b ∧ b < w.heap.size := by
  obtain ⟨A, c, rfl, -, -, -, h⟩ := h
  rcases hf with ⟨ho, hn⟩ | ⟨q, hq, ho⟩
  · cases l with
    | nil => exact absurd rfl hn
    | cons x xs =>
      obtain ⟨b', o', cs, rfl, h1, h2, -⟩ := h 0 x rfl
      simp only [Value.ownBlock, Option.some.injEq] at ho
      subst ho
      exact ⟨h1, h2.lt⟩
  · obtain ⟨k, hk⟩ := List.mem_iff_getElem?.1 hq
    obtain ⟨b', o', cs, -, -, -, -, -, -, -, hi⟩ := h k q hk
    obtain ⟨h1, cs', h2⟩ := hi.own ho
    exact ⟨h1, h2.lt⟩
theorem Sep.ne {α : Type} {l : List (α × Value)} (h : Sep l) {i j : Nat} {p q : α × Value} (hi : l[i]? = some p) (hj : l[j]? = some q) (hij : i ≠ j) {g : Nat} (hg : p.2.ownBlock = some g) : q.2.ownBlock ≠ some g := by
  unfold Sep at h
  rw [List.pairwise_iff_getElem] at h
  have h1 := lt_of_get hi; have h2 := lt_of_get hj
  rw [List.getElem?_eq_getElem h1] at hi
  rw [List.getElem?_eq_getElem h2] at hj
  rcases Nat.lt_or_ge i j with hlt | hge
  · have := h i j h1 h2 hlt g
    rw [Option.some.inj hi, Option.some.inj hj] at this
    exact this hg
  · intro hq
    have := h j i h2 h1 (by omega) g
    rw [Option.some.inj hi, Option.some.inj hj] at this
    exact this hq hg
set_option maxRecDepth 4000 in
set_option maxHeartbeats 1000000 in
theorem markItemS_c {B : Nat} {v : Value} {l : List (It × Value)} {k : Int} (w : World) (h : ItsU B w v l) (hsep : Sep l) (h0 : 1 ≤ k) (h1 : k + (cIts (l.map Prod.fst) : Nat) ≤ 1152921504606846976) :
    Calls Tryz.prog 67 #[v, .int .i64 k] w (RetM (FootIt v l) (.int .i64 (k + (cIts (l.map Prod.fst) : Nat))) (fun w' => ItsU B w' v (mkItsU k l)) w) := by
  obtain ⟨A, c, rfl, hA⟩ := h
  have hl := hA.2.2.1
  unfold lim at hl
  have hex : ∃ n, l.length = n := ⟨_, rfl⟩
  obtain ⟨n, hn⟩ := hex
  rw [hn] at hl ⊢
  have Hn := Lib.hid hn
  have HA := Lib.hid hA
  have HS := Lib.hid hsep
  have H1 := Lib.hid h1
  clear hA hn hsep h1
  go_enter Tryz.func67, Tryz.ntmps67
  go_wp2
  go_loopw [1, 5] (fun q i wr => ∃ (j : Nat) (d : Int), j ≤ n ∧ i = .int .i64 j ∧ q = .int .i64 d ∧ Hid (d = k + (cIts ((l.map Prod.fst).take j) : Nat)) ∧ Hid (SlIn B 51 3 (EItU B) wr A c (mkItsU k (l.take j) ++ l.drop j)) ∧ Hid (Mod (FootIt (Value.slice A n c) l) w wr)) (fun _ i _ => n - (intOf i).toNat)
  case atStart => exact ⟨0, k, by omega, rfl, rfl, Lib.hid (by simp [cIts]), Lib.hid (by simpa [mkItsU] using HA.out), Lib.hid (Mod.refl _ _)⟩
  case round =>
    obtain ⟨j, d, hj, rfl, rfl, hd, hS, hM⟩ := hrel
    by_cases hlt : j < n
    · obtain ⟨x, hx⟩ := get_of_lt (l := l) (k := j) (by rw [Hn.out]; exact hlt)
      obtain ⟨x, u⟩ := x
      have hxf : (l.map Prod.fst)[j]? = some x := by rw [List.getElem?_map, hx]; rfl
      have htl : (l.take j).length = j := by rw [List.length_take, Hn.out]; omega
      have hL : (mkItsU k (l.take j) ++ l.drop j)[j]? = some (x, u) := by
        rw [List.getElem?_append_right (by rw [mkItsU_len, htl]; exact Nat.le_refl _), mkItsU_len, htl, Nat.sub_self, List.getElem?_drop]; simpa using hx
      obtain ⟨b, o, cs, rfl, hB, hb, e0, hps, e1, e2, hI⟩ := hS.out.2.2.2 j _ hL
      simp only at e0 hps e1 e2 hI
      have hc := cIts_take hxf
      have hc2 := cIts_take_le (l.map Prod.fst) (j + 1)
      have hdb : 1 ≤ d ∧ d + 2 + (x.ids.length : Nat) ≤ 1152921504606846976 := by
        have := hd.out; have := H1.out; have hw : wIt x = 2 + x.ids.length := rfl
        omega
      have hlen := hI.len
      obtain ⟨Au, cu, rfl, hU⟩ := hI
      have d0 := fun W (e : Ext wr W) => hb.at_ e0 W e; have d1 := fun W (e : Ext wr W) => hb.at_ e1 W e; have d2 := fun W (e : Ext wr W) => hb.at_ e2 W e
      have f0 := fun W (e : Ext wr W) => (hb.ext e).frozen (o + j * 3); have f1 := fun W (e : Ext wr W) => (hb.ext e).frozen (o + j * 3 + 1)
      have Cm : ∀ W, Calls Tryz.prog 69 #[.int .i64 d] W (Ret (.string (mt d)) W) := fun W => markText_c d W (by omega) (by omega)
      have Hb := Lib.hid hb; have HL := Lib.hid hL; have Hx := Lib.hid hx; have HU := Lib.hid hU; have Hc := Lib.hid hc; have Hxf := Lib.hid hxf; have Htl := Lib.hid htl
      obtain ⟨hd1, hd2⟩ := hdb
      clear hb hL hx hU hc hc2 hxf e0 e1 e2 htl
      go_wp2_with (go_at_call 69; refine (Cm _).mono ?_; rintro e w1 ⟨rfl, he1⟩; have d0 := d0 _ he1; have d1 := d1 _ he1; have d2 := d2 _ he1; have f0 := f0 _ he1; have f1 := f1 _ he1)
      have B0 := Hb.out.ext he1
      have B1 := B0.set_ (o + j * 3) (.string (mt d))
      have B2 := B1.set_ (o + j * 3 + 1) (.bool ((d + 1) % 3 == 0))
      have K2 := (KeepsT.set (i := o + j * 3) B0 (.string (mt d)) rfl).trans (KeepsT.set (i := o + j * 3 + 1) B1 (.bool ((d + 1) % 3 == 0)) rfl)
      have hu : Ints B _ (.slice Au x.ids.length cu) x.ids := (Ints.ext (w := wr) (w' := w1) ⟨Au, cu, rfl, HU.out⟩ he1).keepT K2 (by decide)
      have hne : l ≠ [] := fun e => by have := Hx.out; rw [e] at this; simp at this
      have M2 : Mod (FootIt (Value.slice (some ⟨b, o, none⟩) n c) l) w1 _ := (Mod.set (S := FootIt (Value.slice (some ⟨b, o, none⟩) n c) l) (p := ⟨b, o + j * 3, none⟩) (.inl ⟨rfl, hne⟩) (.string (mt d))).trans (Mod.set (S := FootIt (Value.slice (some ⟨b, o, none⟩) n c) l) (p := ⟨b, o + j * 3 + 1, none⟩) (.inl ⟨rfl, hne⟩) (.bool ((d + 1) % 3 == 0)))
      have M3 := Lib.hid ((he1.mod _).trans M2)
      clear M2 d0 d1 d2 f0 f1 B0 B1 Cm
      refine (markIntS_c (k := d + 1 + 1) _ hu (by omega) (by omega)).mono ?_
      rintro e w4 ⟨rfl, hu4, hM4⟩
      have hfo : ∀ b', Own (.slice Au x.ids.length cu) x.ids b' → FootIt (Value.slice (some ⟨b, o, none⟩) n c) l b' := fun b' ho => .inr ⟨_, List.mem_of_getElem? Hx.out, ho⟩
      have hM5 : Hid (Mod (FootIt (Value.slice (some ⟨b, o, none⟩) n c) l) w w4) := Lib.hid ((hM.out.trans M3.out).trans (hM4.mono hfo))
      have hbu : ¬ Own (.slice Au x.ids.length cu) x.ids b := fun ho => by
        obtain ⟨-, cs', h'⟩ := hu.own ho
        exact Blk.ne_ h' B2 (by decide) rfl
      have hup : Hid (SlIn B 51 3 (EItU B) w4 (some ⟨b, o, none⟩) c (mkItsU k (l.take (j + 1)) ++ l.drop (j + 1))) := Lib.hid (by
        have hdr := drop_cons Hx.out
        have e : mkItsU k (l.take (j + 1)) ++ l.drop (j + 1) = (mkItsU k (l.take j) ++ l.drop j).set j (mkIt d x, .slice Au x.ids.length cu) := by
          rw [hdr, set_mid (by rw [mkItsU_len, Htl.out]), List.take_add_one, Hx.out, Option.toList_some, mkItsU_snoc, List.append_assoc, List.map_take, ← hd.out]; rfl
        rw [e]
        refine SlIn.upd hS.out HL.out fun cs2 hb2 he2 => ⟨_, hM4.blk B2 hbu, ?_, fun i z hi hz hez => ?_⟩
        · obtain rfl := hb2.inj Hb.out
          obtain ⟨-, -, -, q2, -⟩ := he2
          have hsz := (Array.getElem?_eq_some_iff.1 q2).1
          refine ⟨?_, mt_size d, ?_, ?_, hu4⟩
          · rw [Array.getElem?_setIfInBounds, if_neg (by omega), Array.getElem?_setIfInBounds, if_pos rfl, if_pos (by omega)]; rfl
          · rw [Array.getElem?_setIfInBounds, if_pos rfl, Array.size_setIfInBounds, if_pos (by omega)]; rfl
          · rw [Array.getElem?_setIfInBounds, if_neg (by omega), Array.getElem?_setIfInBounds, if_neg (by omega)]; exact q2
        · obtain rfl := hb2.inj Hb.out
          obtain ⟨zi, zu⟩ := z
          obtain ⟨q0, hq, q1, q2, q3⟩ := hez
          simp only at q0 hq q1 q2 q3
          have q3' := ((q3.ext he1).keepT K2 (by decide)).mod hM4 (fun b' ho ho' => by
            have hii : ∃ zi', l[i]? = some (zi', zu) := by
              have e2 : ((mkItsU k (l.take j) ++ l.drop j).map Prod.snd)[i]? = some zu := by rw [List.getElem?_map, hz]; rfl
              rw [List.map_append, mkItsU_snd, ← List.map_append, List.take_append_drop, List.getElem?_map, Option.map_eq_some_iff] at e2
              obtain ⟨q', h1, rfl⟩ := e2
              exact ⟨q'.1, h1⟩
            obtain ⟨zi', hz'⟩ := hii
            exact HS.out.ne Hx.out hz' (fun e => hi e.symm) ho'.1 ho.1)
          refine ⟨?_, hq, ?_, ?_, q3'⟩
          · rw [Array.getElem?_setIfInBounds, if_neg (by omega), Array.getElem?_setIfInBounds, if_neg (by omega)]; exact q0
          · rw [Array.getElem?_setIfInBounds, if_neg (by omega), Array.getElem?_setIfInBounds, if_neg (by omega)]; exact q1
          · rw [Array.getElem?_setIfInBounds, if_neg (by omega), Array.getElem?_setIfInBounds, if_neg (by omega)]; exact q2)
      have hd3 : Hid (d + 1 + 1 + (x.ids.length : Nat) = k + (cIts ((l.map Prod.fst).take (j + 1)) : Nat)) := Lib.hid (by
        rw [Hc.out, hd.out]; have hw : wIt x = 2 + x.ids.length := rfl
        omega)
      clear K2 hbu hfo hu hM4 hu4 B2 M3 hM hS HL
      go_wp2
      go_roundw
      case rel => exact ⟨j + 1, _, by omega, by go_num, rfl, hd3, hup, hM5⟩
      case measure => simp [intOf]; omega
    · have hjs : j = n := by omega
      subst hjs
      have ht : l.take j = l := List.take_of_length_le (by rw [Hn.out]; exact Nat.le_refl _)
      have ht2 : (l.map Prod.fst).take j = l.map Prod.fst := by rw [← List.map_take, ht]
      have hS2 : Hid (SlIn B 51 3 (EItU B) wr A c (mkItsU k l)) := Lib.hid (by have := hS.out; rwa [ht, List.drop_eq_nil_of_le (by rw [Hn.out]; exact Nat.le_refl _), List.append_nil] at this)
      have hd2 := hd.out
      rw [ht2] at hd2
      clear hS hd ht ht2
      go_wp2
      go_ret
      exact ⟨ret_v (by rw [hd2]; rfl), ⟨A, c, by rw [mkItsU_len, Hn.out], hS2.out⟩, hM.out⟩
end Go.Sf

/-! Readings with the inner slice told, plain marks, and the walks that mark rows (written by gen_marks.py). -/
namespace Go.Sf
open Go Go.RowKit Go.Proofs
set_option maxHeartbeats 1000000 in
theorem heldIntS_c {B : Nat} {u : Value} {n : Nat} {k : Int} (w : World) (h : Ints B w u (mkInts k n)) (h0 : 0 ≤ k) (h1 : k + (n : Nat) ≤ 2305843009213693951) : Calls Tryz.prog 71 #[u, .int .i64 k] w (Ret (.int .i64 (k + (n : Nat))) w) := by
  obtain ⟨A, c, rfl, hA⟩ := h
  rw [mkInts_len]
  have hl := hA.2.2.1
  rw [mkInts_len] at hl
  unfold lim at hl
  have HA := Lib.hid hA; clear hA
  go_enter Tryz.func71, Tryz.ntmps71
  go_wp2
  go_loopw [1, 5] (fun q i wr => ∃ j : Nat, j ≤ n ∧ i = .int .i64 j ∧ q = .int .i64 (k + (j : Nat)) ∧ Ext w wr) (fun _ i _ => n - (intOf i).toNat)
  case atStart => exact ⟨0, by omega, rfl, by simp, Ext.refl w⟩
  case round =>
    obtain ⟨j, hj, rfl, rfl, he⟩ := hrel
    by_cases hlt : j < n
    · have hx : (mkInts k n)[j]? = some (k + (j : Nat)) := by simp [mkInts, hlt]
      obtain ⟨b, o, rfl, -, -, -, hc0⟩ := Ints.at_ HA.out hx
      have a0 := hc0 wr he
      clear hc0 hx
      go_wp2
      go_roundw
      case rel => exact ⟨j + 1, by omega, by go_num, by go_num, he⟩
      case measure => simp [intOf]; omega
    · have hjs : j = n := by omega
      subst hjs
      go_wp2
      go_ret
      exact ⟨rfl, he⟩
/-! ### impl.Change -/
def EChU (B : Nat) (w : World) (cs : Array Value) (p : Nat) (q : Ch × Value) : Prop :=
  cs[p]? = some (.int .i64 q.1.kind) ∧ inI q.1.kind ∧ cs[p + 1]? = some (.string q.1.item.path) ∧ q.1.item.path.size < lim ∧ cs[p + 2]? = some (.bool q.1.item.dir) ∧ cs[p + 3]? = some q.2 ∧ Ints B w q.2 q.1.item.ids
def ChsU (B : Nat) (w : World) (v : Value) (l : List (Ch × Value)) : Prop := SlOf B 87 4 (EChU B) w v l
theorem EChU.keepT {B : Nat} {t : TypeId} {w w' : World} {cs : Array Value} {p : Nat} {q : Ch × Value} (h : EChU B w cs p q) (hk : KeepsT t w w') (ht : 3 ≠ t) : EChU B w' cs p q :=
  let ⟨y0, g0, y1, g1, y2, y3, hI⟩ := h; ⟨y0, g0, y1, g1, y2, y3, hI.keepT hk ht⟩
theorem EChU.keep {B B' : Nat} {w w' : World} {cs : Array Value} {p : Nat} {q : Ch × Value} (h : EChU B w cs p q) (hB : B' ≤ B) (hk : Keeps B w w') : EChU B' w' cs p q :=
  let ⟨y0, g0, y1, g1, y2, y3, hI⟩ := h; ⟨y0, g0, y1, g1, y2, y3, hI.keep hB hk⟩
theorem EChU.loc {B : Nat} {w : World} {cs cs' : Array Value} {p p' : Nat} {q : Ch × Value} (h : EChU B w cs p q) (hj : ∀ j, j < 4 → cs'[p' + j]? = cs[p + j]?) : EChU B w cs' p' q := by
  obtain ⟨y0, g0, y1, g1, y2, y3, hI⟩ := h
  have j0 := hj 0 (by omega); have j1 := hj 1 (by omega); have j2 := hj 2 (by omega); have j3 := hj 3 (by omega)
  simp only [Nat.add_zero] at j0
  exact ⟨j0.trans y0, g0, j1.trans y1, g1, j2.trans y2, j3.trans y3, hI⟩
theorem EChU_ok (B : Nat) : ElOk 87 4 (EChU B) := ⟨fun _ _ _ _ _ hk h => h.keepT hk (by decide), fun _ _ _ _ _ _ hj h => h.loc hj, fun _ _ _ _ ⟨y0, _, y1, _, y2, y3, hI⟩ j hj => match j, hj with
  | 0, _ => ⟨_, y0, rfl⟩
  | 1, _ => ⟨_, y1, rfl⟩
  | 2, _ => ⟨_, y2, rfl⟩
  | 3, _ => ⟨_, y3, hI.one⟩⟩
theorem ChsU.plain {B : Nat} {w : World} {v : Value} {lu : List (Ch × Value)} (h : ChsU B w v lu) : Chs B w v (lu.map Prod.fst) := by
  obtain ⟨A, c, rfl, h1, h2, h3, h4⟩ := h
  refine ⟨A, c, by rw [List.length_map], by rw [List.length_map]; exact h1, h2, by rw [List.length_map]; exact h3, fun k x hx => ?_⟩
  rw [List.getElem?_map, Option.map_eq_some_iff] at hx
  obtain ⟨q, hq, rfl⟩ := hx
  obtain ⟨b, o, cs, e1, e2, e3, y0, g0, y1, g1, y2, y3, hI⟩ := h4 k q hq
  exact ⟨b, o, cs, e1, e2, e3, y0, g0, y1, g1, y2, ⟨_, y3, hI⟩⟩
theorem ChsU.keep {B B' : Nat} {w w' : World} {v : Value} {lu : List (Ch × Value)} (h : ChsU B w v lu) (hB : B' ≤ B) (hk : Keeps B w w') : ChsU B' w' v lu := SlOf.mono h hB hk fun _ _ _ e => e.keep hB hk
theorem ChsU.ext {B : Nat} {w w' : World} {v : Value} {lu : List (Ch × Value)} (h : ChsU B w v lu) (e : Ext w w') : ChsU B w' v lu := h.keep (Nat.le_refl _) (e.keeps _)
def wCh (x : Ch) : Nat := 3 + x.item.ids.length
def cChs (l : List Ch) : Nat := (l.map wCh).sum
def mkCh (k : Int) (x : Ch) : Ch := ⟨k, ⟨mt (k + 1), ((k + 1 + 1) % 3 == 0), mkInts (k + 1 + 1 + 1) x.item.ids.length⟩⟩
def mkChsU : Int → List (Ch × Value) → List (Ch × Value)
  | _, [] => []
  | k, q :: r => (mkCh k q.1, q.2) :: mkChsU (k + (wCh q.1 : Nat)) r
def mkChs : Int → List Ch → List Ch
  | _, [] => []
  | k, x :: r => mkCh k x :: mkChs (k + (wCh x : Nat)) r
theorem mkChsU_fst : ∀ (k : Int) (l : List (Ch × Value)), (mkChsU k l).map Prod.fst = mkChs k (l.map Prod.fst) := by
  intro k l
  induction l generalizing k with
  | nil => rfl
  | cons q r ih => rw [mkChsU, List.map_cons, List.map_cons, mkChs, ih]
theorem mkChsU_len (k : Int) (l : List (Ch × Value)) : (mkChsU k l).length = l.length := by
  induction l generalizing k with
  | nil => rfl
  | cons q r ih => rw [mkChsU, List.length_cons, List.length_cons, ih]
theorem mkChsU_snd (k : Int) (l : List (Ch × Value)) : (mkChsU k l).map Prod.snd = l.map Prod.snd := by
  induction l generalizing k with
  | nil => rfl
  | cons q r ih => rw [mkChsU, List.map_cons, List.map_cons, ih]
theorem mkChsU_snoc (k : Int) (l : List (Ch × Value)) (q : Ch × Value) : mkChsU k (l ++ [q]) = mkChsU k l ++ [(mkCh (k + (cChs (l.map Prod.fst) : Nat)) q.1, q.2)] := by
  induction l generalizing k with
  | nil => simp [mkChsU, cChs]
  | cons p r ih =>
    rw [List.cons_append, mkChsU, ih, mkChsU, List.cons_append]
    have e : k + (wCh p.1 : Nat) + (cChs (r.map Prod.fst) : Nat) = k + (cChs ((p :: r).map Prod.fst) : Nat) := by
      simp only [cChs, List.map_cons, List.sum_cons, Int.natCast_add]; omega
    rw [e]
theorem mkChs_len (k : Int) (l : List Ch) : (mkChs k l).length = l.length := by
  induction l generalizing k with
  | nil => rfl
  | cons q r ih => rw [mkChs, List.length_cons, List.length_cons, ih]
theorem mkChs_get {k : Int} {l : List Ch} {j : Nat} {x : Ch} (h : l[j]? = some x) : (mkChs k l)[j]? = some (mkCh (k + (cChs (l.take j) : Nat)) x) := by
  induction l generalizing k j with
  | nil => simp at h
  | cons p r ih =>
    cases j with
    | zero => simp at h; subst h; simp [mkChs, cChs]
    | succ j =>
      rw [List.getElem?_cons_succ] at h
      rw [mkChs, List.getElem?_cons_succ, ih h]
      have e : k + (wCh p : Nat) + (cChs (r.take j) : Nat) = k + (cChs ((p :: r).take (j + 1)) : Nat) := by
        simp only [cChs, List.take_succ_cons, List.map_cons, List.sum_cons, Int.natCast_add]; omega
      rw [e]
theorem cChs_take {l : List Ch} {j : Nat} {x : Ch} (h : l[j]? = some x) : cChs (l.take (j + 1)) = cChs (l.take j) + wCh x := by
  unfold cChs; rw [List.take_add_one, h]; simp
theorem cChs_take_le (l : List Ch) (j : Nat) : cChs (l.take j) ≤ cChs l := by
  unfold cChs
  conv => rhs; rw [← List.take_append_drop j l]
  rw [List.map_append, List.sum_append]; omega
/-- the blocks that a row of them and their ints lie in -/
def FootCh (v : Value) (l : List (Ch × Value)) (b : Nat) : Prop := (v.ownBlock = some b ∧ l ≠ []) ∨ ∃ q, q ∈ l ∧ Own q.2 q.1.item.ids b
theorem ChsU.foot {B : Nat} {w : World} {v : Value} {l : List (Ch × Value)} (h : ChsU B w v l) {b : Nat} (hf : FootCh v l b) : B ≤ b ∧ b < w.heap.size := by
  obtain ⟨A, c, rfl, -, -, -, h⟩ := h
  rcases hf with ⟨ho, hn⟩ | ⟨q, hq, ho⟩
  · cases l with
    | nil => exact absurd rfl hn
    | cons x xs =>
      obtain ⟨b', o', cs, rfl, h1, h2, -⟩ := h 0 x rfl
      simp only [Value.ownBlock, Option.some.injEq] at ho
      subst ho
      exact ⟨h1, h2.lt⟩
  · obtain ⟨k, hk⟩ := List.mem_iff_getElem?.1 hq
    obtain ⟨b', o', cs, -, -, -, -, -, -, -, -, -, hI⟩ := h k q hk
    obtain ⟨h1, cs', h2⟩ := hI.own ho
    exact ⟨h1, h2.lt⟩
/-! ### impl.Held -/
def EHdU (B : Nat) (w : World) (cs : Array Value) (p : Nat) (q : Hd × Value) : Prop :=
  cs[p]? = some (.int .i64 q.1.id) ∧ inI q.1.id ∧ cs[p + 1]? = some q.2 ∧ cs[p + 2]? = some (.int .i64 q.1.uses) ∧ inI q.1.uses ∧ Ints B w q.2 q.1.bytes
def HdsU (B : Nat) (w : World) (v : Value) (l : List (Hd × Value)) : Prop := SlOf B 70 3 (EHdU B) w v l
theorem EHdU.keepT {B : Nat} {t : TypeId} {w w' : World} {cs : Array Value} {p : Nat} {q : Hd × Value} (h : EHdU B w cs p q) (hk : KeepsT t w w') (ht : 3 ≠ t) : EHdU B w' cs p q :=
  let ⟨y0, g0, y1, y2, g2, hI⟩ := h; ⟨y0, g0, y1, y2, g2, hI.keepT hk ht⟩
theorem EHdU.keep {B B' : Nat} {w w' : World} {cs : Array Value} {p : Nat} {q : Hd × Value} (h : EHdU B w cs p q) (hB : B' ≤ B) (hk : Keeps B w w') : EHdU B' w' cs p q :=
  let ⟨y0, g0, y1, y2, g2, hI⟩ := h; ⟨y0, g0, y1, y2, g2, hI.keep hB hk⟩
theorem EHdU.loc {B : Nat} {w : World} {cs cs' : Array Value} {p p' : Nat} {q : Hd × Value} (h : EHdU B w cs p q) (hj : ∀ j, j < 3 → cs'[p' + j]? = cs[p + j]?) : EHdU B w cs' p' q := by
  obtain ⟨y0, g0, y1, y2, g2, hI⟩ := h
  have j0 := hj 0 (by omega); have j1 := hj 1 (by omega); have j2 := hj 2 (by omega)
  simp only [Nat.add_zero] at j0
  exact ⟨j0.trans y0, g0, j1.trans y1, j2.trans y2, g2, hI⟩
theorem EHdU_ok (B : Nat) : ElOk 70 3 (EHdU B) := ⟨fun _ _ _ _ _ hk h => h.keepT hk (by decide), fun _ _ _ _ _ _ hj h => h.loc hj, fun _ _ _ _ ⟨y0, _, y1, y2, _, hI⟩ j hj => match j, hj with
  | 0, _ => ⟨_, y0, rfl⟩
  | 1, _ => ⟨_, y1, hI.one⟩
  | 2, _ => ⟨_, y2, rfl⟩⟩
theorem HdsU.plain {B : Nat} {w : World} {v : Value} {lu : List (Hd × Value)} (h : HdsU B w v lu) : Hds B w v (lu.map Prod.fst) := by
  obtain ⟨A, c, rfl, h1, h2, h3, h4⟩ := h
  refine ⟨A, c, by rw [List.length_map], by rw [List.length_map]; exact h1, h2, by rw [List.length_map]; exact h3, fun k x hx => ?_⟩
  rw [List.getElem?_map, Option.map_eq_some_iff] at hx
  obtain ⟨q, hq, rfl⟩ := hx
  obtain ⟨b, o, cs, e1, e2, e3, y0, g0, y1, y2, g2, hI⟩ := h4 k q hq
  exact ⟨b, o, cs, e1, e2, e3, y0, g0, ⟨_, y1, hI⟩, y2, g2⟩
theorem HdsU.keep {B B' : Nat} {w w' : World} {v : Value} {lu : List (Hd × Value)} (h : HdsU B w v lu) (hB : B' ≤ B) (hk : Keeps B w w') : HdsU B' w' v lu := SlOf.mono h hB hk fun _ _ _ e => e.keep hB hk
theorem HdsU.ext {B : Nat} {w w' : World} {v : Value} {lu : List (Hd × Value)} (h : HdsU B w v lu) (e : Ext w w') : HdsU B w' v lu := h.keep (Nat.le_refl _) (e.keeps _)
def wHd (x : Hd) : Nat := 2 + x.bytes.length
def cHds (l : List Hd) : Nat := (l.map wHd).sum
def mkHd (k : Int) (x : Hd) : Hd := ⟨k, mkInts (k + 1) x.bytes.length, k + 1 + (x.bytes.length : Nat)⟩
def mkHdsU : Int → List (Hd × Value) → List (Hd × Value)
  | _, [] => []
  | k, q :: r => (mkHd k q.1, q.2) :: mkHdsU (k + (wHd q.1 : Nat)) r
def mkHds : Int → List Hd → List Hd
  | _, [] => []
  | k, x :: r => mkHd k x :: mkHds (k + (wHd x : Nat)) r
theorem mkHdsU_fst : ∀ (k : Int) (l : List (Hd × Value)), (mkHdsU k l).map Prod.fst = mkHds k (l.map Prod.fst) := by
  intro k l
  induction l generalizing k with
  | nil => rfl
  | cons q r ih => rw [mkHdsU, List.map_cons, List.map_cons, mkHds, ih]
theorem mkHdsU_len (k : Int) (l : List (Hd × Value)) : (mkHdsU k l).length = l.length := by
  induction l generalizing k with
  | nil => rfl
  | cons q r ih => rw [mkHdsU, List.length_cons, List.length_cons, ih]
theorem mkHdsU_snd (k : Int) (l : List (Hd × Value)) : (mkHdsU k l).map Prod.snd = l.map Prod.snd := by
  induction l generalizing k with
  | nil => rfl
  | cons q r ih => rw [mkHdsU, List.map_cons, List.map_cons, ih]
theorem mkHdsU_snoc (k : Int) (l : List (Hd × Value)) (q : Hd × Value) : mkHdsU k (l ++ [q]) = mkHdsU k l ++ [(mkHd (k + (cHds (l.map Prod.fst) : Nat)) q.1, q.2)] := by
  induction l generalizing k with
  | nil => simp [mkHdsU, cHds]
  | cons p r ih =>
    rw [List.cons_append, mkHdsU, ih, mkHdsU, List.cons_append]
    have e : k + (wHd p.1 : Nat) + (cHds (r.map Prod.fst) : Nat) = k + (cHds ((p :: r).map Prod.fst) : Nat) := by
      simp only [cHds, List.map_cons, List.sum_cons, Int.natCast_add]; omega
    rw [e]
theorem mkHds_len (k : Int) (l : List Hd) : (mkHds k l).length = l.length := by
  induction l generalizing k with
  | nil => rfl
  | cons q r ih => rw [mkHds, List.length_cons, List.length_cons, ih]
theorem mkHds_get {k : Int} {l : List Hd} {j : Nat} {x : Hd} (h : l[j]? = some x) : (mkHds k l)[j]? = some (mkHd (k + (cHds (l.take j) : Nat)) x) := by
  induction l generalizing k j with
  | nil => simp at h
  | cons p r ih =>
    cases j with
    | zero => simp at h; subst h; simp [mkHds, cHds]
    | succ j =>
      rw [List.getElem?_cons_succ] at h
      rw [mkHds, List.getElem?_cons_succ, ih h]
      have e : k + (wHd p : Nat) + (cHds (r.take j) : Nat) = k + (cHds ((p :: r).take (j + 1)) : Nat) := by
        simp only [cHds, List.take_succ_cons, List.map_cons, List.sum_cons, Int.natCast_add]; omega
      rw [e]
theorem cHds_take {l : List Hd} {j : Nat} {x : Hd} (h : l[j]? = some x) : cHds (l.take (j + 1)) = cHds (l.take j) + wHd x := by
  unfold cHds; rw [List.take_add_one, h]; simp
theorem cHds_take_le (l : List Hd) (j : Nat) : cHds (l.take j) ≤ cHds l := by
  unfold cHds
  conv => rhs; rw [← List.take_append_drop j l]
  rw [List.map_append, List.sum_append]; omega
/-- the blocks that a row of them and their ints lie in -/
def FootHd (v : Value) (l : List (Hd × Value)) (b : Nat) : Prop := (v.ownBlock = some b ∧ l ≠ []) ∨ ∃ q, q ∈ l ∧ Own q.2 q.1.bytes b
theorem HdsU.foot {B : Nat} {w : World} {v : Value} {l : List (Hd × Value)} (h : HdsU B w v l) {b : Nat} (hf : FootHd v l b) : B ≤ b ∧ b < w.heap.size := by
  obtain ⟨A, c, rfl, -, -, -, h⟩ := h
  rcases hf with ⟨ho, hn⟩ | ⟨q, hq, ho⟩
  · cases l with
    | nil => exact absurd rfl hn
    | cons x xs =>
      obtain ⟨b', o', cs, rfl, h1, h2, -⟩ := h 0 x rfl
      simp only [Value.ownBlock, Option.some.injEq] at ho
      subst ho
      exact ⟨h1, h2.lt⟩
  · obtain ⟨k, hk⟩ := List.mem_iff_getElem?.1 hq
    obtain ⟨b', o', cs, -, -, -, -, -, -, -, -, hI⟩ := h k q hk
    obtain ⟨h1, cs', h2⟩ := hI.own ho
    exact ⟨h1, h2.lt⟩
set_option maxRecDepth 4000 in
set_option maxHeartbeats 1000000 in
theorem markHdS_c {B : Nat} {v : Value} {l : List (Hd × Value)} {k : Int} (w : World) (h : HdsU B w v l) (hsep : Sep l) (h0 : 1 ≤ k) (h1 : k + (cHds (l.map Prod.fst) : Nat) ≤ 1152921504606846976) :
    Calls Tryz.prog 66 #[v, .int .i64 k] w (RetM (FootHd v l) (.int .i64 (k + (cHds (l.map Prod.fst) : Nat))) (fun w' => HdsU B w' v (mkHdsU k l)) w) := by
  obtain ⟨A, c, rfl, hA⟩ := h
  have hl := hA.2.2.1
  unfold lim at hl
  have hex : ∃ n, l.length = n := ⟨_, rfl⟩
  obtain ⟨n, hn⟩ := hex
  rw [hn] at hl ⊢
  have Hn := Lib.hid hn
  have HA := Lib.hid hA
  have HS := Lib.hid hsep
  have H1 := Lib.hid h1
  clear hA hn hsep h1
  go_enter Tryz.func66, Tryz.ntmps66
  go_wp2
  go_loopw [1, 5] (fun q i wr => ∃ (j : Nat) (d : Int), j ≤ n ∧ i = .int .i64 j ∧ q = .int .i64 d ∧ Hid (d = k + (cHds ((l.map Prod.fst).take j) : Nat)) ∧ Hid (SlIn B 70 3 (EHdU B) wr A c (mkHdsU k (l.take j) ++ l.drop j)) ∧ Hid (Mod (FootHd (Value.slice A n c) l) w wr)) (fun _ i _ => n - (intOf i).toNat)
  case atStart => exact ⟨0, k, by omega, rfl, rfl, Lib.hid (by simp [cHds]), Lib.hid (by simpa [mkHdsU] using HA.out), Lib.hid (Mod.refl _ _)⟩
  case round =>
    obtain ⟨j, d, hj, rfl, rfl, hd, hS, hM⟩ := hrel
    by_cases hlt : j < n
    · obtain ⟨x, hx⟩ := get_of_lt (l := l) (k := j) (by rw [Hn.out]; exact hlt)
      obtain ⟨x, u⟩ := x
      have hxf : (l.map Prod.fst)[j]? = some x := by rw [List.getElem?_map, hx]; rfl
      have htl : (l.take j).length = j := by rw [List.length_take, Hn.out]; omega
      have hL : (mkHdsU k (l.take j) ++ l.drop j)[j]? = some (x, u) := by
        rw [List.getElem?_append_right (by rw [mkHdsU_len, htl]; exact Nat.le_refl _), mkHdsU_len, htl, Nat.sub_self, List.getElem?_drop]; simpa using hx
      obtain ⟨b, o, cs, rfl, hB, hb, y0, g0, y1, y2, g2, hI⟩ := hS.out.2.2.2 j _ hL
      simp only at y0 g0 y1 y2 g2 hI
      have hc := cHds_take hxf
      have hc2 := cHds_take_le (l.map Prod.fst) (j + 1)
      have hdb : 1 ≤ d ∧ d + 2 + (x.bytes.length : Nat) ≤ 1152921504606846976 := by
        have := hd.out; have := H1.out; have hw : wHd x = 2 + x.bytes.length := rfl
        omega
      have hlen := hI.len
      obtain ⟨Au, cu, rfl, hU⟩ := hI
      have hsz : o + j * 3 + 2 < cs.size := (Array.getElem?_eq_some_iff.1 y2).1
      have hne : l ≠ [] := fun e => by rw [e] at hx; simp at hx
      have hu : Ints B wr (.slice Au x.bytes.length cu) x.bytes := ⟨_, _, rfl, hU⟩
      have K : KeepsT 70 wr wr := KeepsT.refl _ _
      have M := Mod.refl (FootHd (Value.slice (some ⟨b, o, none⟩) n c) l) wr
      obtain ⟨hd1, hd2⟩ := hdb
      have HL := Lib.hid hL; have Hx := Lib.hid hx; have Hc := Lib.hid hc; have Hxf := Lib.hid hxf; have Htl := Lib.hid htl; have Hne := Lib.hid hne; have Hb := Lib.hid hb; have Hb0 := Hb; have HK := Lib.hid K; have HM2 := Lib.hid M; have HU := Lib.hid hu
      have HC : Hid (cs[o + j * 3]? = some (.int .i64 x.id) ∧ cs[o + j * 3 + 1]? = some (.slice Au x.bytes.length cu) ∧ cs[o + j * 3 + 2]? = some (.int .i64 x.uses)) := Lib.hid ⟨y0, y1, y2⟩
      clear hL hx hc hc2 hxf htl hne hb K M hu hU y0 y1 y2
      have d0 : World.cell? _ ⟨b, o + j * 3, none⟩ = some (.int .i64 x.id) := (Hb.out.cell _).trans (by exact HC.out.1)
      have f0 := Hb.out.frozen (o + j * 3)
      have d1 : World.cell? _ ⟨b, o + j * 3 + 1, none⟩ = some (.slice Au x.bytes.length cu) := (Hb.out.cell _).trans (by exact HC.out.2.1)
      have d2 : World.cell? _ ⟨b, o + j * 3 + 2, none⟩ = some (.int .i64 x.uses) := (Hb.out.cell _).trans (by exact HC.out.2.2)
      have f2 := Hb.out.frozen (o + j * 3 + 2)
      go_wp2_with fail
      clear d0 d1 d2 f0 f2
      have HM3 := Lib.hid (HM2.out.trans (Mod.set (S := FootHd (Value.slice (some ⟨b, o, none⟩) n c) l) (p := ⟨b, o + j * 3, none⟩) (.inl ⟨rfl, Hne.out⟩) (.int .i64 (d))))
      have HK3 := Lib.hid (HK.out.trans (KeepsT.set (i := o + j * 3) Hb.out (.int .i64 (d)) rfl))
      have Hb3 := Lib.hid (Hb.out.set_ (o + j * 3) (.int .i64 (d)))
      clear HM2 HK Hb; have HM2 := HM3; have HK := HK3; have Hb := Hb3; clear HM3 HK3 Hb3
      have hu := HU.out.keepT HK.out (by decide)
      have hbu : ¬ Own (.slice Au x.bytes.length cu) x.bytes b := fun ho => by obtain ⟨-, cs', h'⟩ := hu.own ho; exact Blk.ne_ h' Hb.out (by decide) rfl
      refine (markIntS_c (k := d + 1) _ hu (by omega) (by omega)).mono ?_
      rintro e w1 ⟨rfl, hu4, hM4⟩
      have HU4 := Lib.hid hu4; have HM4 := Lib.hid hM4; have HK4 := HK
      have HM3 := Lib.hid (HM2.out.trans (hM4.mono fun b' ho => .inr ⟨_, List.mem_of_getElem? Hx.out, ho⟩)); have Hb3 := Lib.hid (hM4.blk Hb.out hbu)
      have HK3 : Hid (KeepsT 70 w1 w1) := Lib.hid (KeepsT.refl _ _)
      clear HM2 HK Hb hu hbu hu4 hM4; have HM2 := HM3; have HK := HK3; have Hb := Hb3; clear HM3 HK3 Hb3
      have d0 : World.cell? _ ⟨b, o + j * 3, none⟩ = some (.int .i64 (d)) := (Hb.out.cell _).trans (by rw [Array.getElem?_setIfInBounds, if_pos rfl, if_pos (by (try simp only [Array.size_setIfInBounds]); omega)])
      have f0 := Hb.out.frozen (o + j * 3)
      have d1 : World.cell? _ ⟨b, o + j * 3 + 1, none⟩ = some (.slice Au x.bytes.length cu) := (Hb.out.cell _).trans (by rw [Array.getElem?_setIfInBounds, if_neg (by omega)]; exact HC.out.2.1)
      have d2 : World.cell? _ ⟨b, o + j * 3 + 2, none⟩ = some (.int .i64 x.uses) := (Hb.out.cell _).trans (by rw [Array.getElem?_setIfInBounds, if_neg (by omega)]; exact HC.out.2.2)
      have f2 := Hb.out.frozen (o + j * 3 + 2)
      have hd3 : Hid (d + 1 + (x.bytes.length : Nat) + 1 = k + (cHds ((l.map Prod.fst).take (j + 1)) : Nat)) := Lib.hid (by rw [Hc.out, hd.out]; have hw : wHd x = 2 + x.bytes.length := rfl; omega)
      go_wp2
      clear d0 d1 d2 f0 f2
      have HM3 := Lib.hid (HM2.out.trans (Mod.set (S := FootHd (Value.slice (some ⟨b, o, none⟩) n c) l) (p := ⟨b, o + j * 3 + 2, none⟩) (.inl ⟨rfl, Hne.out⟩) (.int .i64 (d + 1 + (x.bytes.length : Nat)))))
      have HK3 := Lib.hid (HK.out.trans (KeepsT.set (i := o + j * 3 + 2) Hb.out (.int .i64 (d + 1 + (x.bytes.length : Nat))) rfl))
      have Hb3 := Lib.hid (Hb.out.set_ (o + j * 3 + 2) (.int .i64 (d + 1 + (x.bytes.length : Nat))))
      clear HM2 HK Hb; have HM2 := HM3; have HK := HK3; have Hb := Hb3; clear HM3 HK3 Hb3
      have hup : Hid (SlIn B 70 3 (EHdU B) _ (some ⟨b, o, none⟩) c (mkHdsU k (l.take (j + 1)) ++ l.drop (j + 1))) := Lib.hid (by
        have hdr := drop_cons Hx.out
        have e : mkHdsU k (l.take (j + 1)) ++ l.drop (j + 1) = (mkHdsU k (l.take j) ++ l.drop j).set j (mkHd d x, .slice Au x.bytes.length cu) := by
          rw [hdr, set_mid (by rw [mkHdsU_len, Htl.out]), List.take_add_one, Hx.out, Option.toList_some, mkHdsU_snoc, List.append_assoc, List.map_take, ← hd.out]; rfl
        rw [e]
        refine SlIn.upd hS.out HL.out fun cs2 hb2 he2 => ⟨_, Hb.out, ?_, fun i z hi hz hez => ?_⟩
        · exact ⟨(by rw [Array.getElem?_setIfInBounds, if_neg (by omega)]; rw [Array.getElem?_setIfInBounds, if_pos rfl, if_pos (by (try simp only [Array.size_setIfInBounds]); omega)]; rfl), (show inI (d) by unfold inI; omega), (by rw [Array.getElem?_setIfInBounds, if_neg (by omega)]; rw [Array.getElem?_setIfInBounds, if_neg (by omega)]; exact HC.out.2.1), (by rw [Array.getElem?_setIfInBounds, if_pos rfl, if_pos (by (try simp only [Array.size_setIfInBounds]); omega)]; rfl), (show inI (d + 1 + (x.bytes.length : Nat)) by unfold inI; omega), HU4.out.keepT HK.out (by decide)⟩
        · obtain rfl := hb2.inj Hb0.out
          obtain ⟨zi, zu⟩ := z
          obtain ⟨q0, g0, q1, q2, g2, qI⟩ := hez
          simp only at q0 g0 q1 q2 g2 qI
          have q3' := ((qI.keepT HK4.out (by decide)).mod HM4.out (fun b' ho ho' => by
            have hii : ∃ zi', l[i]? = some (zi', zu) := by
              have e2 : ((mkHdsU k (l.take j) ++ l.drop j).map Prod.snd)[i]? = some zu := by rw [List.getElem?_map, hz]; rfl
              rw [List.map_append, mkHdsU_snd, ← List.map_append, List.take_append_drop, List.getElem?_map, Option.map_eq_some_iff] at e2
              obtain ⟨q', h1, rfl⟩ := e2
              exact ⟨q'.1, h1⟩
            obtain ⟨zi', hz'⟩ := hii
            exact HS.out.ne Hx.out hz' (fun e => hi e.symm) ho'.1 ho.1)).keepT HK.out (by decide)
          exact ⟨(by rw [Array.getElem?_setIfInBounds, if_neg (by omega)]; rw [Array.getElem?_setIfInBounds, if_neg (by omega)]; exact q0), g0, (by rw [Array.getElem?_setIfInBounds, if_neg (by omega)]; rw [Array.getElem?_setIfInBounds, if_neg (by omega)]; exact q1), (by rw [Array.getElem?_setIfInBounds, if_neg (by omega)]; rw [Array.getElem?_setIfInBounds, if_neg (by omega)]; exact q2), g2, q3'⟩)
      go_roundw
      case rel => exact ⟨j + 1, _, by omega, by go_num, rfl, hd3, hup, Lib.hid (hM.out.trans HM2.out)⟩
      case measure => simp [intOf]; omega
    · have hjs : j = n := by omega
      subst hjs
      have ht : l.take j = l := List.take_of_length_le (by rw [Hn.out]; exact Nat.le_refl _)
      have ht2 : (l.map Prod.fst).take j = l.map Prod.fst := by rw [← List.map_take, ht]
      have hS2 : Hid (SlIn B 70 3 (EHdU B) wr A c (mkHdsU k l)) := Lib.hid (by have := hS.out; rwa [ht, List.drop_eq_nil_of_le (by rw [Hn.out]; exact Nat.le_refl _), List.append_nil] at this)
      have hd2 := hd.out
      rw [ht2] at hd2
      clear hS hd ht ht2
      go_wp2
      go_ret
      exact ⟨ret_v (by rw [hd2]; rfl), ⟨A, c, by rw [mkHdsU_len, Hn.out], hS2.out⟩, hM.out⟩
/-! ### impl.Part -/
def EPtU (B : Nat) (w : World) (cs : Array Value) (p : Nat) (q : Pt × Value) : Prop :=
  cs[p]? = some (.int .i64 q.1.kind) ∧ inI q.1.kind ∧ cs[p + 1]? = some (.string q.1.path) ∧ q.1.path.size < lim ∧ cs[p + 2]? = some (.bool q.1.dir) ∧ cs[p + 3]? = some q.2 ∧ Ints B w q.2 q.1.bytes
def PtsU (B : Nat) (w : World) (v : Value) (l : List (Pt × Value)) : Prop := SlOf B 77 4 (EPtU B) w v l
theorem EPtU.keepT {B : Nat} {t : TypeId} {w w' : World} {cs : Array Value} {p : Nat} {q : Pt × Value} (h : EPtU B w cs p q) (hk : KeepsT t w w') (ht : 3 ≠ t) : EPtU B w' cs p q :=
  let ⟨y0, g0, y1, g1, y2, y3, hI⟩ := h; ⟨y0, g0, y1, g1, y2, y3, hI.keepT hk ht⟩
theorem EPtU.keep {B B' : Nat} {w w' : World} {cs : Array Value} {p : Nat} {q : Pt × Value} (h : EPtU B w cs p q) (hB : B' ≤ B) (hk : Keeps B w w') : EPtU B' w' cs p q :=
  let ⟨y0, g0, y1, g1, y2, y3, hI⟩ := h; ⟨y0, g0, y1, g1, y2, y3, hI.keep hB hk⟩
theorem EPtU.loc {B : Nat} {w : World} {cs cs' : Array Value} {p p' : Nat} {q : Pt × Value} (h : EPtU B w cs p q) (hj : ∀ j, j < 4 → cs'[p' + j]? = cs[p + j]?) : EPtU B w cs' p' q := by
  obtain ⟨y0, g0, y1, g1, y2, y3, hI⟩ := h
  have j0 := hj 0 (by omega); have j1 := hj 1 (by omega); have j2 := hj 2 (by omega); have j3 := hj 3 (by omega)
  simp only [Nat.add_zero] at j0
  exact ⟨j0.trans y0, g0, j1.trans y1, g1, j2.trans y2, j3.trans y3, hI⟩
theorem EPtU_ok (B : Nat) : ElOk 77 4 (EPtU B) := ⟨fun _ _ _ _ _ hk h => h.keepT hk (by decide), fun _ _ _ _ _ _ hj h => h.loc hj, fun _ _ _ _ ⟨y0, _, y1, _, y2, y3, hI⟩ j hj => match j, hj with
  | 0, _ => ⟨_, y0, rfl⟩
  | 1, _ => ⟨_, y1, rfl⟩
  | 2, _ => ⟨_, y2, rfl⟩
  | 3, _ => ⟨_, y3, hI.one⟩⟩
theorem PtsU.plain {B : Nat} {w : World} {v : Value} {lu : List (Pt × Value)} (h : PtsU B w v lu) : Pts B w v (lu.map Prod.fst) := by
  obtain ⟨A, c, rfl, h1, h2, h3, h4⟩ := h
  refine ⟨A, c, by rw [List.length_map], by rw [List.length_map]; exact h1, h2, by rw [List.length_map]; exact h3, fun k x hx => ?_⟩
  rw [List.getElem?_map, Option.map_eq_some_iff] at hx
  obtain ⟨q, hq, rfl⟩ := hx
  obtain ⟨b, o, cs, e1, e2, e3, y0, g0, y1, g1, y2, y3, hI⟩ := h4 k q hq
  exact ⟨b, o, cs, e1, e2, e3, y0, g0, y1, g1, y2, ⟨_, y3, hI⟩⟩
theorem PtsU.keep {B B' : Nat} {w w' : World} {v : Value} {lu : List (Pt × Value)} (h : PtsU B w v lu) (hB : B' ≤ B) (hk : Keeps B w w') : PtsU B' w' v lu := SlOf.mono h hB hk fun _ _ _ e => e.keep hB hk
theorem PtsU.ext {B : Nat} {w w' : World} {v : Value} {lu : List (Pt × Value)} (h : PtsU B w v lu) (e : Ext w w') : PtsU B w' v lu := h.keep (Nat.le_refl _) (e.keeps _)
def wPt (x : Pt) : Nat := 3 + x.bytes.length
def cPts (l : List Pt) : Nat := (l.map wPt).sum
def mkPt (k : Int) (x : Pt) : Pt := ⟨k, mt (k + 1), ((k + 1 + 1) % 3 == 0), mkInts (k + 1 + 1 + 1) x.bytes.length⟩
def mkPtsU : Int → List (Pt × Value) → List (Pt × Value)
  | _, [] => []
  | k, q :: r => (mkPt k q.1, q.2) :: mkPtsU (k + (wPt q.1 : Nat)) r
def mkPts : Int → List Pt → List Pt
  | _, [] => []
  | k, x :: r => mkPt k x :: mkPts (k + (wPt x : Nat)) r
theorem mkPtsU_fst : ∀ (k : Int) (l : List (Pt × Value)), (mkPtsU k l).map Prod.fst = mkPts k (l.map Prod.fst) := by
  intro k l
  induction l generalizing k with
  | nil => rfl
  | cons q r ih => rw [mkPtsU, List.map_cons, List.map_cons, mkPts, ih]
theorem mkPtsU_len (k : Int) (l : List (Pt × Value)) : (mkPtsU k l).length = l.length := by
  induction l generalizing k with
  | nil => rfl
  | cons q r ih => rw [mkPtsU, List.length_cons, List.length_cons, ih]
theorem mkPtsU_snd (k : Int) (l : List (Pt × Value)) : (mkPtsU k l).map Prod.snd = l.map Prod.snd := by
  induction l generalizing k with
  | nil => rfl
  | cons q r ih => rw [mkPtsU, List.map_cons, List.map_cons, ih]
theorem mkPtsU_snoc (k : Int) (l : List (Pt × Value)) (q : Pt × Value) : mkPtsU k (l ++ [q]) = mkPtsU k l ++ [(mkPt (k + (cPts (l.map Prod.fst) : Nat)) q.1, q.2)] := by
  induction l generalizing k with
  | nil => simp [mkPtsU, cPts]
  | cons p r ih =>
    rw [List.cons_append, mkPtsU, ih, mkPtsU, List.cons_append]
    have e : k + (wPt p.1 : Nat) + (cPts (r.map Prod.fst) : Nat) = k + (cPts ((p :: r).map Prod.fst) : Nat) := by
      simp only [cPts, List.map_cons, List.sum_cons, Int.natCast_add]; omega
    rw [e]
theorem mkPts_len (k : Int) (l : List Pt) : (mkPts k l).length = l.length := by
  induction l generalizing k with
  | nil => rfl
  | cons q r ih => rw [mkPts, List.length_cons, List.length_cons, ih]
theorem mkPts_get {k : Int} {l : List Pt} {j : Nat} {x : Pt} (h : l[j]? = some x) : (mkPts k l)[j]? = some (mkPt (k + (cPts (l.take j) : Nat)) x) := by
  induction l generalizing k j with
  | nil => simp at h
  | cons p r ih =>
    cases j with
    | zero => simp at h; subst h; simp [mkPts, cPts]
    | succ j =>
      rw [List.getElem?_cons_succ] at h
      rw [mkPts, List.getElem?_cons_succ, ih h]
      have e : k + (wPt p : Nat) + (cPts (r.take j) : Nat) = k + (cPts ((p :: r).take (j + 1)) : Nat) := by
        simp only [cPts, List.take_succ_cons, List.map_cons, List.sum_cons, Int.natCast_add]; omega
      rw [e]
theorem cPts_take {l : List Pt} {j : Nat} {x : Pt} (h : l[j]? = some x) : cPts (l.take (j + 1)) = cPts (l.take j) + wPt x := by
  unfold cPts; rw [List.take_add_one, h]; simp
theorem cPts_take_le (l : List Pt) (j : Nat) : cPts (l.take j) ≤ cPts l := by
  unfold cPts
  conv => rhs; rw [← List.take_append_drop j l]
  rw [List.map_append, List.sum_append]; omega
/-- the blocks that a row of them and their ints lie in -/
def FootPt (v : Value) (l : List (Pt × Value)) (b : Nat) : Prop := (v.ownBlock = some b ∧ l ≠ []) ∨ ∃ q, q ∈ l ∧ Own q.2 q.1.bytes b
theorem PtsU.foot {B : Nat} {w : World} {v : Value} {l : List (Pt × Value)} (h : PtsU B w v l) {b : Nat} (hf : FootPt v l b) : B ≤ b ∧ b < w.heap.size := by
  obtain ⟨A, c, rfl, -, -, -, h⟩ := h
  rcases hf with ⟨ho, hn⟩ | ⟨q, hq, ho⟩
  · cases l with
    | nil => exact absurd rfl hn
    | cons x xs =>
      obtain ⟨b', o', cs, rfl, h1, h2, -⟩ := h 0 x rfl
      simp only [Value.ownBlock, Option.some.injEq] at ho
      subst ho
      exact ⟨h1, h2.lt⟩
  · obtain ⟨k, hk⟩ := List.mem_iff_getElem?.1 hq
    obtain ⟨b', o', cs, -, -, -, -, -, -, -, -, -, hI⟩ := h k q hk
    obtain ⟨h1, cs', h2⟩ := hI.own ho
    exact ⟨h1, h2.lt⟩
set_option maxRecDepth 4000 in
set_option maxHeartbeats 1000000 in
theorem markPtS_c {B : Nat} {v : Value} {l : List (Pt × Value)} {k : Int} (w : World) (h : PtsU B w v l) (hsep : Sep l) (h0 : 1 ≤ k) (h1 : k + (cPts (l.map Prod.fst) : Nat) ≤ 1152921504606846976) :
    Calls Tryz.prog 20 #[v, .int .i64 k] w (RetM (FootPt v l) (.int .i64 (k + (cPts (l.map Prod.fst) : Nat))) (fun w' => PtsU B w' v (mkPtsU k l)) w) := by
  obtain ⟨A, c, rfl, hA⟩ := h
  have hl := hA.2.2.1
  unfold lim at hl
  have hex : ∃ n, l.length = n := ⟨_, rfl⟩
  obtain ⟨n, hn⟩ := hex
  rw [hn] at hl ⊢
  have Hn := Lib.hid hn
  have HA := Lib.hid hA
  have HS := Lib.hid hsep
  have H1 := Lib.hid h1
  clear hA hn hsep h1
  go_enter Tryz.func20, Tryz.ntmps20
  go_wp2
  go_loopw [1, 5] (fun q i wr => ∃ (j : Nat) (d : Int), j ≤ n ∧ i = .int .i64 j ∧ q = .int .i64 d ∧ Hid (d = k + (cPts ((l.map Prod.fst).take j) : Nat)) ∧ Hid (SlIn B 77 4 (EPtU B) wr A c (mkPtsU k (l.take j) ++ l.drop j)) ∧ Hid (Mod (FootPt (Value.slice A n c) l) w wr)) (fun _ i _ => n - (intOf i).toNat)
  case atStart => exact ⟨0, k, by omega, rfl, rfl, Lib.hid (by simp [cPts]), Lib.hid (by simpa [mkPtsU] using HA.out), Lib.hid (Mod.refl _ _)⟩
  case round =>
    obtain ⟨j, d, hj, rfl, rfl, hd, hS, hM⟩ := hrel
    by_cases hlt : j < n
    · obtain ⟨x, hx⟩ := get_of_lt (l := l) (k := j) (by rw [Hn.out]; exact hlt)
      obtain ⟨x, u⟩ := x
      have hxf : (l.map Prod.fst)[j]? = some x := by rw [List.getElem?_map, hx]; rfl
      have htl : (l.take j).length = j := by rw [List.length_take, Hn.out]; omega
      have hL : (mkPtsU k (l.take j) ++ l.drop j)[j]? = some (x, u) := by
        rw [List.getElem?_append_right (by rw [mkPtsU_len, htl]; exact Nat.le_refl _), mkPtsU_len, htl, Nat.sub_self, List.getElem?_drop]; simpa using hx
      obtain ⟨b, o, cs, rfl, hB, hb, y0, g0, y1, g1, y2, y3, hI⟩ := hS.out.2.2.2 j _ hL
      simp only at y0 g0 y1 g1 y2 y3 hI
      have hc := cPts_take hxf
      have hc2 := cPts_take_le (l.map Prod.fst) (j + 1)
      have hdb : 1 ≤ d ∧ d + 3 + (x.bytes.length : Nat) ≤ 1152921504606846976 := by
        have := hd.out; have := H1.out; have hw : wPt x = 3 + x.bytes.length := rfl
        omega
      have hlen := hI.len
      obtain ⟨Au, cu, rfl, hU⟩ := hI
      have Cm : ∀ W, Calls Tryz.prog 69 #[.int .i64 (d + 1)] W (Ret (.string (mt (d + 1))) W) := fun W => markText_c (d + 1) W (by omega) (by omega)
      have hsz : o + j * 4 + 3 < cs.size := (Array.getElem?_eq_some_iff.1 y3).1
      have hne : l ≠ [] := fun e => by rw [e] at hx; simp at hx
      have hu : Ints B wr (.slice Au x.bytes.length cu) x.bytes := ⟨_, _, rfl, hU⟩
      have K : KeepsT 77 wr wr := KeepsT.refl _ _
      have M := Mod.refl (FootPt (Value.slice (some ⟨b, o, none⟩) n c) l) wr
      obtain ⟨hd1, hd2⟩ := hdb
      have HL := Lib.hid hL; have Hx := Lib.hid hx; have Hc := Lib.hid hc; have Hxf := Lib.hid hxf; have Htl := Lib.hid htl; have Hne := Lib.hid hne; have Hb := Lib.hid hb; have Hb0 := Hb; have HK := Lib.hid K; have HM2 := Lib.hid M; have HU := Lib.hid hu
      have HC : Hid (cs[o + j * 4]? = some (.int .i64 x.kind) ∧ cs[o + j * 4 + 1]? = some (.string x.path) ∧ cs[o + j * 4 + 2]? = some (.bool x.dir) ∧ cs[o + j * 4 + 3]? = some (.slice Au x.bytes.length cu)) := Lib.hid ⟨y0, y1, y2, y3⟩
      clear hL hx hc hc2 hxf htl hne hb K M hu hU y0 y1 y2 y3
      have d0 : World.cell? _ ⟨b, o + j * 4, none⟩ = some (.int .i64 x.kind) := (Hb.out.cell _).trans (by exact HC.out.1)
      have f0 := Hb.out.frozen (o + j * 4)
      have d1 : World.cell? _ ⟨b, o + j * 4 + 1, none⟩ = some (.string x.path) := (Hb.out.cell _).trans (by exact HC.out.2.1)
      have f1 := Hb.out.frozen (o + j * 4 + 1)
      have d2 : World.cell? _ ⟨b, o + j * 4 + 2, none⟩ = some (.bool x.dir) := (Hb.out.cell _).trans (by exact HC.out.2.2.1)
      have f2 := Hb.out.frozen (o + j * 4 + 2)
      have d3 : World.cell? _ ⟨b, o + j * 4 + 3, none⟩ = some (.slice Au x.bytes.length cu) := (Hb.out.cell _).trans (by exact HC.out.2.2.2)
      go_wp2_with fail
      clear d0 d1 d2 d3 f0 f1 f2
      have HM3 := Lib.hid (HM2.out.trans (Mod.set (S := FootPt (Value.slice (some ⟨b, o, none⟩) n c) l) (p := ⟨b, o + j * 4, none⟩) (.inl ⟨rfl, Hne.out⟩) (.int .i64 (d))))
      have HK3 := Lib.hid (HK.out.trans (KeepsT.set (i := o + j * 4) Hb.out (.int .i64 (d)) rfl))
      have Hb3 := Lib.hid (Hb.out.set_ (o + j * 4) (.int .i64 (d)))
      clear HM2 HK Hb; have HM2 := HM3; have HK := HK3; have Hb := Hb3; clear HM3 HK3 Hb3
      refine (Cm _).mono ?_
      rintro e w1 ⟨rfl, he1⟩
      have HM3 := Lib.hid (HM2.out.trans (he1.mod _)); have HK3 := Lib.hid (HK.out.trans (he1.keepsT _)); have Hb3 := Lib.hid (Hb.out.ext he1)
      clear HM2 HK Hb he1 Cm; have HM2 := HM3; have HK := HK3; have Hb := Hb3; clear HM3 HK3 Hb3
      have d0 : World.cell? _ ⟨b, o + j * 4, none⟩ = some (.int .i64 (d)) := (Hb.out.cell _).trans (by rw [Array.getElem?_setIfInBounds, if_pos rfl, if_pos (by (try simp only [Array.size_setIfInBounds]); omega)])
      have f0 := Hb.out.frozen (o + j * 4)
      have d1 : World.cell? _ ⟨b, o + j * 4 + 1, none⟩ = some (.string x.path) := (Hb.out.cell _).trans (by rw [Array.getElem?_setIfInBounds, if_neg (by omega)]; exact HC.out.2.1)
      have f1 := Hb.out.frozen (o + j * 4 + 1)
      have d2 : World.cell? _ ⟨b, o + j * 4 + 2, none⟩ = some (.bool x.dir) := (Hb.out.cell _).trans (by rw [Array.getElem?_setIfInBounds, if_neg (by omega)]; exact HC.out.2.2.1)
      have f2 := Hb.out.frozen (o + j * 4 + 2)
      have d3 : World.cell? _ ⟨b, o + j * 4 + 3, none⟩ = some (.slice Au x.bytes.length cu) := (Hb.out.cell _).trans (by rw [Array.getElem?_setIfInBounds, if_neg (by omega)]; exact HC.out.2.2.2)
      go_wp2_with fail
      clear d0 d1 d2 d3 f0 f1 f2
      have HM3 := Lib.hid (HM2.out.trans (Mod.set (S := FootPt (Value.slice (some ⟨b, o, none⟩) n c) l) (p := ⟨b, o + j * 4 + 1, none⟩) (.inl ⟨rfl, Hne.out⟩) (.string (mt (d + 1)))))
      have HK3 := Lib.hid (HK.out.trans (KeepsT.set (i := o + j * 4 + 1) Hb.out (.string (mt (d + 1))) rfl))
      have Hb3 := Lib.hid (Hb.out.set_ (o + j * 4 + 1) (.string (mt (d + 1))))
      clear HM2 HK Hb; have HM2 := HM3; have HK := HK3; have Hb := Hb3; clear HM3 HK3 Hb3
      have HM3 := Lib.hid (HM2.out.trans (Mod.set (S := FootPt (Value.slice (some ⟨b, o, none⟩) n c) l) (p := ⟨b, o + j * 4 + 2, none⟩) (.inl ⟨rfl, Hne.out⟩) (.bool ((d + 1 + 1) % 3 == 0))))
      have HK3 := Lib.hid (HK.out.trans (KeepsT.set (i := o + j * 4 + 2) Hb.out (.bool ((d + 1 + 1) % 3 == 0)) rfl))
      have Hb3 := Lib.hid (Hb.out.set_ (o + j * 4 + 2) (.bool ((d + 1 + 1) % 3 == 0)))
      clear HM2 HK Hb; have HM2 := HM3; have HK := HK3; have Hb := Hb3; clear HM3 HK3 Hb3
      have hu := HU.out.keepT HK.out (by decide)
      have hbu : ¬ Own (.slice Au x.bytes.length cu) x.bytes b := fun ho => by obtain ⟨-, cs', h'⟩ := hu.own ho; exact Blk.ne_ h' Hb.out (by decide) rfl
      refine (markIntS_c (k := d + 1 + 1 + 1) _ hu (by omega) (by omega)).mono ?_
      rintro e w2 ⟨rfl, hu4, hM4⟩
      have HU4 := Lib.hid hu4; have HM4 := Lib.hid hM4; have HK4 := HK
      have HM3 := Lib.hid (HM2.out.trans (hM4.mono fun b' ho => .inr ⟨_, List.mem_of_getElem? Hx.out, ho⟩)); have Hb3 := Lib.hid (hM4.blk Hb.out hbu)
      have HK3 : Hid (KeepsT 77 w2 w2) := Lib.hid (KeepsT.refl _ _)
      clear HM2 HK Hb hu hbu hu4 hM4; have HM2 := HM3; have HK := HK3; have Hb := Hb3; clear HM3 HK3 Hb3
      have hd3 : Hid (d + 1 + 1 + 1 + (x.bytes.length : Nat) = k + (cPts ((l.map Prod.fst).take (j + 1)) : Nat)) := Lib.hid (by rw [Hc.out, hd.out]; have hw : wPt x = 3 + x.bytes.length := rfl; omega)
      go_wp2
      have hup : Hid (SlIn B 77 4 (EPtU B) _ (some ⟨b, o, none⟩) c (mkPtsU k (l.take (j + 1)) ++ l.drop (j + 1))) := Lib.hid (by
        have hdr := drop_cons Hx.out
        have e : mkPtsU k (l.take (j + 1)) ++ l.drop (j + 1) = (mkPtsU k (l.take j) ++ l.drop j).set j (mkPt d x, .slice Au x.bytes.length cu) := by
          rw [hdr, set_mid (by rw [mkPtsU_len, Htl.out]), List.take_add_one, Hx.out, Option.toList_some, mkPtsU_snoc, List.append_assoc, List.map_take, ← hd.out]; rfl
        rw [e]
        refine SlIn.upd hS.out HL.out fun cs2 hb2 he2 => ⟨_, Hb.out, ?_, fun i z hi hz hez => ?_⟩
        · exact ⟨(by rw [Array.getElem?_setIfInBounds, if_neg (by omega)]; rw [Array.getElem?_setIfInBounds, if_neg (by omega)]; rw [Array.getElem?_setIfInBounds, if_pos rfl, if_pos (by (try simp only [Array.size_setIfInBounds]); omega)]; rfl), (show inI (d) by unfold inI; omega), (by rw [Array.getElem?_setIfInBounds, if_neg (by omega)]; rw [Array.getElem?_setIfInBounds, if_pos rfl, if_pos (by (try simp only [Array.size_setIfInBounds]); omega)]; rfl), mt_size _, (by rw [Array.getElem?_setIfInBounds, if_pos rfl, if_pos (by (try simp only [Array.size_setIfInBounds]); omega)]; rfl), (by rw [Array.getElem?_setIfInBounds, if_neg (by omega)]; rw [Array.getElem?_setIfInBounds, if_neg (by omega)]; rw [Array.getElem?_setIfInBounds, if_neg (by omega)]; exact HC.out.2.2.2), HU4.out.keepT HK.out (by decide)⟩
        · obtain rfl := hb2.inj Hb0.out
          obtain ⟨zi, zu⟩ := z
          obtain ⟨q0, g0, q1, g1, q2, q3, qI⟩ := hez
          simp only at q0 g0 q1 g1 q2 q3 qI
          have q3' := ((qI.keepT HK4.out (by decide)).mod HM4.out (fun b' ho ho' => by
            have hii : ∃ zi', l[i]? = some (zi', zu) := by
              have e2 : ((mkPtsU k (l.take j) ++ l.drop j).map Prod.snd)[i]? = some zu := by rw [List.getElem?_map, hz]; rfl
              rw [List.map_append, mkPtsU_snd, ← List.map_append, List.take_append_drop, List.getElem?_map, Option.map_eq_some_iff] at e2
              obtain ⟨q', h1, rfl⟩ := e2
              exact ⟨q'.1, h1⟩
            obtain ⟨zi', hz'⟩ := hii
            exact HS.out.ne Hx.out hz' (fun e => hi e.symm) ho'.1 ho.1)).keepT HK.out (by decide)
          exact ⟨(by rw [Array.getElem?_setIfInBounds, if_neg (by omega)]; rw [Array.getElem?_setIfInBounds, if_neg (by omega)]; rw [Array.getElem?_setIfInBounds, if_neg (by omega)]; exact q0), g0, (by rw [Array.getElem?_setIfInBounds, if_neg (by omega)]; rw [Array.getElem?_setIfInBounds, if_neg (by omega)]; rw [Array.getElem?_setIfInBounds, if_neg (by omega)]; exact q1), g1, (by rw [Array.getElem?_setIfInBounds, if_neg (by omega)]; rw [Array.getElem?_setIfInBounds, if_neg (by omega)]; rw [Array.getElem?_setIfInBounds, if_neg (by omega)]; exact q2), (by rw [Array.getElem?_setIfInBounds, if_neg (by omega)]; rw [Array.getElem?_setIfInBounds, if_neg (by omega)]; rw [Array.getElem?_setIfInBounds, if_neg (by omega)]; exact q3), q3'⟩)
      go_roundw
      case rel => exact ⟨j + 1, _, by omega, by go_num, rfl, hd3, hup, Lib.hid (hM.out.trans HM2.out)⟩
      case measure => simp [intOf]; omega
    · have hjs : j = n := by omega
      subst hjs
      have ht : l.take j = l := List.take_of_length_le (by rw [Hn.out]; exact Nat.le_refl _)
      have ht2 : (l.map Prod.fst).take j = l.map Prod.fst := by rw [← List.map_take, ht]
      have hS2 : Hid (SlIn B 77 4 (EPtU B) wr A c (mkPtsU k l)) := Lib.hid (by have := hS.out; rwa [ht, List.drop_eq_nil_of_le (by rw [Hn.out]; exact Nat.le_refl _), List.append_nil] at this)
      have hd2 := hd.out
      rw [ht2] at hd2
      clear hS hd ht ht2
      go_wp2
      go_ret
      exact ⟨ret_v (by rw [hd2]; rfl), ⟨A, c, by rw [mkPtsU_len, Hn.out], hS2.out⟩, hM.out⟩
set_option maxRecDepth 4000 in
set_option maxHeartbeats 1000000 in
theorem heldPtS_c {B : Nat} {v : Value} {l : List Pt} {k : Int} (w : World) (h : Pts B w v (mkPts k l)) (h0 : 1 ≤ k) (h1 : k + (cPts l : Nat) ≤ 1152921504606846976) :
    Calls Tryz.prog 21 #[v, .int .i64 k] w (Ret (.int .i64 (k + (cPts l : Nat))) w) := by
  obtain ⟨A, c, rfl, hA⟩ := h
  have hl := hA.2.2.1
  unfold lim at hl
  have hex : ∃ n, (mkPts k l).length = n := ⟨_, rfl⟩
  obtain ⟨n, hn⟩ := hex
  rw [hn] at hl ⊢
  have Hn : Hid (l.length = n) := Lib.hid (by rw [← hn, mkPts_len])
  have HA := Lib.hid hA
  have H1 := Lib.hid h1
  clear hA hn h1
  go_enter Tryz.func21, Tryz.ntmps21
  go_wp2
  go_loopw [1, 5] (fun q i wr => ∃ (j : Nat) (d : Int), j ≤ n ∧ i = .int .i64 j ∧ q = .int .i64 d ∧ Ext w wr ∧ Hid (d = k + (cPts (l.take j) : Nat))) (fun _ i _ => n - (intOf i).toNat)
  case atStart => exact ⟨0, k, by omega, rfl, rfl, Ext.refl w, Lib.hid (by simp [cPts])⟩
  case round =>
    obtain ⟨j, d, hj, rfl, rfl, he, hd⟩ := hrel
    by_cases hlt : j < n
    · obtain ⟨x, hx⟩ := get_of_lt (l := l) (k := j) (by rw [Hn.out]; exact hlt)
      have hm := mkPts_get (k := k) hx
      rw [← hd.out] at hm
      obtain ⟨b, o, u, rfl, -, -, -, -, hI, y0, y1, y2, y3⟩ := Pts.at_ HA.out hm
      have hc := cPts_take hx
      have hc2 := cPts_take_le l (j + 1)
      have hdb : 1 ≤ d ∧ d + 3 + (x.bytes.length : Nat) ≤ 1152921504606846976 := by
        have := hd.out; have := H1.out; have hw : wPt x = 3 + x.bytes.length := rfl
        omega
      obtain ⟨hd1, hd2⟩ := hdb
      have hlen := hI.len
      obtain ⟨Au, cu, rfl, hU⟩ := hI
      have d0 : ∀ W, Ext wr W → W.cell? ⟨b, o + j * 4, none⟩ = some (.int .i64 (d)) := fun W e => y0 W (he.trans e)
      have d1 : ∀ W, Ext wr W → W.cell? ⟨b, o + j * 4 + 1, none⟩ = some (.string (mt (d + 1))) := fun W e => y1 W (he.trans e)
      have d2 : ∀ W, Ext wr W → W.cell? ⟨b, o + j * 4 + 2, none⟩ = some (.bool ((d + 1 + 1) % 3 == 0)) := fun W e => y2 W (he.trans e)
      have d3 : ∀ W, Ext wr W → W.cell? ⟨b, o + j * 4 + 3, none⟩ = some (.slice Au (mkInts (d + 1 + 1 + 1) x.bytes.length).length cu) := fun W e => y3 W (he.trans e)
      have Cm : ∀ W, Calls Tryz.prog 69 #[.int .i64 (d + 1)] W (Ret (.string (mt (d + 1))) W) := fun W => markText_c (d + 1) W (by omega) (by omega)
      have Ch : ∀ W, Ext wr W → Calls Tryz.prog 71 #[.slice Au (mkInts (d + 1 + 1 + 1) x.bytes.length).length cu, .int .i64 (d + 1 + 1 + 1)] W (Ret (.int .i64 (d + 1 + 1 + 1 + (x.bytes.length : Nat))) W) := fun W e => heldIntS_c W (Ints.ext (w := w) ⟨Au, cu, rfl, hU⟩ (he.trans e)) (by omega) (by omega)
      have hd3 : Hid (d + 1 + 1 + 1 + (x.bytes.length : Nat) = k + (cPts (l.take (j + 1)) : Nat)) := Lib.hid (by rw [hc, hd.out]; have hw : wPt x = 3 + x.bytes.length := rfl; omega)
      simp only [mkInts_len] at d3 Ch
      clear y0 y1 y2 y3 hx hm hc hc2 hU hlen
      go_wp2
      refine wp_region_ext (by kernel_rfl) (by kernel_rfl) ?_
      repeat (first | (apply q_plain rfl; (· intro W eW; go_simp; (first | done | rfl | (rw [if_pos] <;> first | omega | rfl))); (try simp only [Act.put, List.setIfInBounds_toArray, List.set_cons_zero, List.set_cons_succ])) | (refine qg_skip (by rfl) ?_; (try simp only [Act.put, List.setIfInBounds_toArray, List.set_cons_zero, List.set_cons_succ])) | (apply qg_plain (by rfl); (· intro W eW; go_simp; (first | done | rfl | (rw [if_pos] <;> first | omega | rfl))); (try simp only [Act.put, List.setIfInBounds_toArray, List.set_cons_zero, List.set_cons_succ])))
      ((first | apply q_call rfl | apply qg_call (by rfl)); (· intro W eW; go_simp; (first | done | (constructor <;> rfl))); (· intro W eW; exact Cm W); (try simp only [Act.put, List.setIfInBounds_toArray, List.set_cons_zero, List.set_cons_succ]))
      repeat (first | (apply q_plain rfl; (· intro W eW; go_simp; (first | done | rfl | (rw [if_pos] <;> first | omega | rfl))); (try simp only [Act.put, List.setIfInBounds_toArray, List.set_cons_zero, List.set_cons_succ])) | (refine qg_skip (by rfl) ?_; (try simp only [Act.put, List.setIfInBounds_toArray, List.set_cons_zero, List.set_cons_succ])) | (apply qg_plain (by rfl); (· intro W eW; go_simp; (first | done | rfl | (rw [if_pos] <;> first | omega | rfl))); (try simp only [Act.put, List.setIfInBounds_toArray, List.set_cons_zero, List.set_cons_succ])))
      refine q_nil ?_
      intro w1 e1
      have E1 := (Ext.refl wr).trans e1
      have d0 := fun W (e : Ext w1 W) => d0 W (E1.trans e)
      have d1 := fun W (e : Ext w1 W) => d1 W (E1.trans e)
      have d2 := fun W (e : Ext w1 W) => d2 W (E1.trans e)
      have d3 := fun W (e : Ext w1 W) => d3 W (E1.trans e)
      have Ch := fun W (e : Ext w1 W) => Ch W (E1.trans e)
      clear e1
      go_wp2_with (go_at_call 71; refine (Ch _ (Ext.refl _)).mono ?_; rintro e w9 ⟨rfl, he9⟩)
      go_roundw
      case rel => exact ⟨j + 1, _, by omega, by go_num, rfl, he.trans (E1.trans he9), hd3⟩
      case measure => simp [intOf]; omega
    · have hjs : j = n := by omega
      subst hjs
      have ht : l.take j = l := List.take_of_length_le (by rw [Hn.out]; exact Nat.le_refl _)
      have hd2 := hd.out
      rw [ht] at hd2
      clear hd ht
      go_wp2
      go_ret
      exact ⟨ret_v (by rw [hd2]; rfl), he⟩
end Go.Sf

/-! What was marked is held: items (written by gen_marks.py). -/
namespace Go.Sf
open Go Go.RowKit Go.Proofs
theorem mkIts_len (k : Int) (l : List It) : (mkIts k l).length = l.length := by
  induction l generalizing k with
  | nil => rfl
  | cons q r ih => rw [mkIts, List.length_cons, List.length_cons, ih]
theorem mkIts_get {k : Int} {l : List It} {j : Nat} {x : It} (h : l[j]? = some x) : (mkIts k l)[j]? = some (mkIt (k + (cIts (l.take j) : Nat)) x) := by
  induction l generalizing k j with
  | nil => simp at h
  | cons p r ih =>
    cases j with
    | zero => simp at h; subst h; simp [mkIts, cIts]
    | succ j =>
      rw [List.getElem?_cons_succ] at h
      rw [mkIts, List.getElem?_cons_succ, ih h]
      have e : k + (wIt p : Nat) + (cIts (r.take j) : Nat) = k + (cIts ((p :: r).take (j + 1)) : Nat) := by
        simp only [cIts, List.take_succ_cons, List.map_cons, List.sum_cons, Int.natCast_add]; omega
      rw [e]
end Go.Sf

/-! Arguments that are changes: how large they are; copies of them. -/
namespace Go.Sf
open Go Go.RowKit Go.Proofs
end Go.Sf
