/- Arguments from outside, read by their cells alone; what szItemS makes of them. -/
import Derived.Test.YtadjkgdlpaddjaaDoorGC
import Derived.Test.YtadjkgdlpaddjaaDoorGE
import Derived.Laws.MakeOwn
import Derived.Lib.SlBytesRow
/-! Arguments from outside, read by their cells alone; what szItemS makes of them. -/
namespace Go.Sf
open Go Go.RowKit Go.Proofs
/-- a row of elements that are read by cells, sz cells each -/
def ARow {α : Type} (sz : Nat) (E : World → Nat → Nat → α → Prop) (w : World) (A : Option Addr) (c : Nat) (l : List α) : Prop :=
  l.length ≤ c ∧ (c ≤ maxLen ∧ (A = none → c = 0)) ∧ ∀ (k : Nat) (x : α), l[k]? = some x → ∃ b o, A = some ⟨b, o, none⟩ ∧ E w b (o + k * sz) x
def ASl {α : Type} (sz : Nat) (E : World → Nat → Nat → α → Prop) (w : World) (v : Value) (l : List α) : Prop := ∃ A c, v = .slice A l.length c ∧ ARow sz E w A c l
theorem ASl.ext {α : Type} {sz : Nat} {E : World → Nat → Nat → α → Prop} {w w' : World} {v : Value} {l : List α} (h : ASl sz E w v l) (hE : ∀ b p x, E w b p x → E w' b p x) : ASl sz E w' v l :=
  let ⟨A, c, h1, h2, h3, h4⟩ := h; ⟨A, c, h1, h2, h3, fun k x hx => let ⟨b, o, e1, e2⟩ := h4 k x hx; ⟨b, o, e1, hE _ _ _ e2⟩⟩
/-- an int of an argument -/
def AInt (w : World) (b p : Nat) (x : Int) : Prop := w.cell? ⟨b, p, none⟩ = some (.int .i64 x) ∧ inI x
def AInts (w : World) (v : Value) (xs : List Int) : Prop := ASl 1 AInt w v xs
theorem AInts.ext {w w' : World} {v : Value} {xs : List Int} (h : AInts w v xs) (e : Ext w w') : AInts w' v xs := ASl.ext h fun _ _ _ ⟨h1, h2⟩ => ⟨e.cell h1, h2⟩
/-- what is left of a bound, or -1 -/
def dec (left : Int) (n : Nat) : Int := if left < n then -1 else left - n
theorem dec_neg {left : Int} {n : Nat} (h : left < n) : dec left n = -1 := if_pos h
theorem dec_pos {left : Int} {n : Nat} (h : ¬ left < n) : dec left n = left - n := if_neg h
set_option maxHeartbeats 1000000 in
theorem szIntS_c {A : Option Addr} {n c : Nat} {left : Int} (w : World) (h0 : 0 ≤ left) (h1 : left ≤ 1048576) (hn : n ≤ maxLen) : Calls Tryd.prog 47 #[.slice A n c, .int .i64 left] w (Ret (.int .i64 (dec left n)) w) := by
  unfold maxLen at hn
  by_cases h : left < n
  · have h2 : left - (n : Int) < 0 := by omega
    go_enter Tryd.func47, Tryd.ntmps47
    go_wp2
    go_ret
    exact ⟨ret_v (by rw [dec_neg (by omega)]; rfl), Ext.refl w⟩
  · have h2 : ¬ left - (n : Int) < 0 := by omega
    go_enter Tryd.func47, Tryd.ntmps47
    go_wp2
    go_ret
    exact ⟨ret_v (by rw [dec_pos (by omega)]; rfl), Ext.refl w⟩
theorem dec_le {left : Int} {n : Nat} (h0 : 0 ≤ left) (h1 : left ≤ 1048576) : dec left n ≤ 1048576 := by unfold dec; split <;> omega
theorem dec_dec {left : Int} {a b : Nat} (h : ¬ left < a) : dec (dec left a) b = dec left (a + b) := by
  rw [dec_pos h]; unfold dec
  by_cases h2 : left < ((a + b : Nat) : Int)
  · rw [if_pos h2, if_pos (by omega)]
  · rw [if_neg h2, if_neg (by omega)]; omega
theorem dec_more {left : Int} {a b : Nat} (h : left < a) : dec left (a + b) = -1 := dec_neg (by omega)
/-! ### items -/
def AIt (w : World) (b p : Nat) (x : It) : Prop :=
  w.cell? ⟨b, p, none⟩ = some (.string x.path) ∧ x.path.size ≤ maxLen ∧ w.cell? ⟨b, p + 1, none⟩ = some (.bool x.dir) ∧ ∃ u, w.cell? ⟨b, p + 2, none⟩ = some u ∧ AInts w u x.ids
def AIts (w : World) (v : Value) (l : List It) : Prop := ASl 3 AIt w v l
theorem AIts.ext {w w' : World} {v : Value} {l : List It} (h : AIts w v l) (e : Ext w w') : AIts w' v l := ASl.ext h fun _ _ _ ⟨h1, h2, h3, u, h4, h5⟩ => ⟨e.cell h1, h2, e.cell h3, u, e.cell h4, h5.ext e⟩
/-- an item by value -/
def AItV (w : World) (v : Value) (x : It) : Prop := ∃ u, v = .agg #[.string x.path, .bool x.dir, u] ∧ x.path.size ≤ maxLen ∧ AInts w u x.ids
def bkIt (x : It) : Nat := x.path.size + x.ids.length
def bkIts (l : List It) : Nat := l.length + (l.map bkIt).sum
set_option maxHeartbeats 1000000 in
theorem szItem_c {v : Value} {x : It} {left : Int} (w : World) (h : AItV w v x) (h0 : 0 ≤ left) (h1 : left ≤ 1048576) : Calls Tryd.prog 25 #[v, .int .i64 left] w (Ret (.int .i64 (dec left (bkIt x))) w) := by
  obtain ⟨xp, xd, xi⟩ := x
  obtain ⟨u, rfl, hps, A, c, rfl, hlc, ⟨hcm, hA⟩, hel⟩ := h
  simp only at hps hlc hel ⊢
  have hmn : xi.length ≤ maxLen := Nat.le_trans hlc hcm
  have hpm := Lib.hid hps
  unfold maxLen at hps
  have Hm := Lib.hid hmn
  clear hel hlc hcm hA hmn
  by_cases h2 : left < xp.size
  · have h3 : left - (xp.size : Int) < 0 := by omega
    go_enter Tryd.func25, Tryd.ntmps25
    go_wp2
    go_ret
    exact ⟨ret_v (by rw [bkIt, dec_more h2]; rfl), (Ext.refl w).alloc _⟩
  · have h3 : ¬ left - (xp.size : Int) < 0 := by omega
    have h4 : 0 ≤ left - (xp.size : Int) := by omega
    have hb := dec_dec (b := xi.length) h2
    rw [dec_pos h2] at hb
    have HB := Lib.hid hb; clear hb
    have hle := dec_le (n := xi.length) h4 (by omega)
    have hd : Hid (0 ≤ dec (left - xp.size) xi.length ∨ dec (left - xp.size) xi.length = -1) := Lib.hid (by unfold dec; split <;> omega)
    have Cs : ∀ W, Calls Tryd.prog 47 #[.slice A xi.length c, .int .i64 (left - xp.size)] W (Ret (.int .i64 (dec (left - xp.size) xi.length)) W) := fun W => szIntS_c W h4 (by omega) Hm.out
    generalize hD : dec (left - xp.size) xi.length = D at *
    have HD := Lib.hid hD; clear hD
    by_cases h5 : D < 0
    · go_enter Tryd.func25, Tryd.ntmps25
      go_wp2_with (go_at_call 47; refine (Cs _).mono ?_; rintro e w1 ⟨rfl, he1⟩)
      go_ret
      have hv : Value.int .i64 (-1) = .int .i64 (dec left (bkIt ⟨xp, xd, xi⟩)) := by
        rw [bkIt, ← HB.out]
        rcases hd.out with h | h
        · omega
        · rw [h]
      exact ⟨ret_v hv, ((Ext.refl w).alloc _).trans he1⟩
    · go_enter Tryd.func25, Tryd.ntmps25
      go_wp2_with (go_at_call 47; refine (Cs _).mono ?_; rintro e w1 ⟨rfl, he1⟩)
      go_ret
      have hv : Value.int .i64 D = .int .i64 (dec left (bkIt ⟨xp, xd, xi⟩)) := by rw [bkIt, ← HB.out]
      exact ⟨ret_v hv, ((Ext.refl w).alloc _).trans he1⟩
theorem bk_take {l : List It} {k : Nat} {x : It} (h : l[k]? = some x) : ((l.take (k + 1)).map bkIt).sum = ((l.take k).map bkIt).sum + bkIt x := by
  rw [List.take_add_one, h]; simp
theorem bk_take_le (l : List It) (k : Nat) : ((l.take k).map bkIt).sum ≤ (l.map bkIt).sum := by
  conv => rhs; rw [← List.take_append_drop k l]
  rw [List.map_append, List.sum_append]; omega
set_option maxRecDepth 4000 in
set_option maxHeartbeats 1000000 in
theorem szItemS_c {v : Value} {l : List It} {left : Int} (w : World) (h : AIts w v l) (h0 : 0 ≤ left) (h1 : left ≤ 1048576) : Calls Tryd.prog 10 #[v, .int .i64 left] w (Ret (.int .i64 (dec left (bkIts l))) w) := by
  obtain ⟨A, c, rfl, hlc, ⟨hcm, hA⟩, hel⟩ := h
  have hmn : l.length ≤ maxLen := Nat.le_trans hlc hcm
  unfold maxLen at hmn
  have hex : ∃ n, l.length = n := ⟨_, rfl⟩
  obtain ⟨n, hn⟩ := hex
  rw [hn] at hmn ⊢
  have Hn := Lib.hid hn
  have HE := Lib.hid hel
  clear hel hlc hcm hA hn
  by_cases h2 : left < n
  · have h3 : left - (n : Int) < 0 := by omega
    go_enter Tryd.func10, Tryd.ntmps10
    go_wp2
    go_ret
    exact ⟨ret_v (by rw [bkIts, Hn.out, dec_more h2]; rfl), Ext.refl w⟩
  · have h3 : ¬ left - (n : Int) < 0 := by omega
    go_enter Tryd.func10, Tryd.ntmps10
    go_wp2
    go_loopw [1, 5] (fun d i wr => ∃ (k : Nat) (D : Int), k ≤ n ∧ i = .int .i64 k ∧ d = .int .i64 D ∧ Ext w wr ∧ 0 ≤ D ∧ D ≤ 1048576 ∧ Hid (D = left - n - ((l.take k).map bkIt).sum)) (fun _ i _ => n - (intOf i).toNat)
    case atStart => exact ⟨0, left - n, by omega, rfl, rfl, Ext.refl w, by omega, by omega, Lib.hid (by simp)⟩
    case round =>
      obtain ⟨k, D, hk, rfl, rfl, he, hD0, hD1, hD⟩ := hrel
      by_cases hlt : k < n
      · obtain ⟨x, hx⟩ := get_of_lt (l := l) (k := k) (by rw [Hn.out]; exact hlt)
        obtain ⟨b, o, rfl, hc0, hps, hc1, u, hc2, hu⟩ := HE.out k x hx
        obtain ⟨Au, cu, rfl, hU⟩ := hu
        have a0 := fun W (e : Ext wr W) => (he.trans e).cell hc0
        have a1 := fun W (e : Ext wr W) => (he.trans e).cell hc1
        have a2 := fun W (e : Ext wr W) => (he.trans e).cell hc2
        have hs := szItem_c (x := x) (left := D) wr ⟨_, rfl, hps, AInts.ext ⟨_, _, rfl, hU⟩ he⟩ hD0 hD1
        have Hs := Lib.hid hs
        have Hx := Lib.hid (bk_take hx)
        have Hb := Lib.hid (bk_take_le l (k + 1))
        have hle := dec_le (n := bkIt x) hD0 hD1
        have hd : Hid ((D < bkIt x ∧ dec D (bkIt x) = -1) ∨ (¬ D < bkIt x ∧ dec D (bkIt x) = D - bkIt x ∧ 0 ≤ D - bkIt x)) := Lib.hid (by
          by_cases h : D < bkIt x
          · exact .inl ⟨h, dec_neg h⟩
          · exact .inr ⟨h, dec_pos h, by omega⟩)
        have aa0 := a0 wr (Ext.refl _); have aa1 := a1 wr (Ext.refl _); have aa2 := a2 wr (Ext.refl _)
        clear hc0 hc1 hc2 hU hx hs a0 a1 a2
        generalize hM : bkIt x = M at *
        have HM := Lib.hid hM; clear hM
        generalize hR : dec D M = R at *
        have HR := Lib.hid hR; clear hR
        by_cases h5 : R < 0
        · go_wp2_with (go_at_call 25; refine Hs.out.mono ?_; rintro e w1 ⟨rfl, he1⟩)
          go_ret
          have hv : Value.int .i64 (-1) = .int .i64 (dec left (bkIts l)) := by
            rcases hd.out with ⟨ha, hb⟩ | ⟨ha, hb, hc⟩
            · rw [bkIts, dec_neg (by have := hD.out; have := Hx.out; have := Hb.out; have := Hn.out; omega)]
            · omega
          exact ⟨ret_v hv, he.trans he1⟩
        · go_wp2_with (go_at_call 25; refine Hs.out.mono ?_; rintro e w1 ⟨rfl, he1⟩)
          go_roundw
          case rel =>
            refine ⟨k + 1, R, by omega, by go_num, rfl, he.trans he1, by omega, hle, Lib.hid ?_⟩
            rcases hd.out with ⟨ha, hb⟩ | ⟨ha, hb, hc⟩
            · omega
            · rw [Hx.out, hb]; have := hD.out; omega
          case measure => simp [intOf]; omega
      · have hks : k = n := by omega
        subst hks
        have e : l.take k = l := List.take_of_length_le (by rw [Hn.out]; omega)
        rw [e] at hD
        go_wp2
        go_ret
        have hv : Value.int .i64 D = .int .i64 (dec left (bkIts l)) := by
          rw [bkIts, Hn.out, dec_pos (by have := hD.out; omega)]; have := hD.out; congr 1; omega
        exact ⟨ret_v hv, he⟩
end Go.Sf

/-! Copies of arguments: toIntS, toItem, toItemS make memory of the call's own, each row apart. -/
namespace Go.Sf
open Go Go.RowKit Go.Proofs
/-- `make([]T, n)`: a row of n elements, whatever they are -/
theorem run_mk {P : Program} {T t : TypeId} {sz : Nat} (el : Elem P T t sz) (n : Nat) (hn : n ≤ lim) : ∃ cs : Array Value, cs.size = n * sz ∧
    ∀ W, (Instr.makeSlice T (.int .i64 n) (.int .i64 n)).run P W = .ok (.slice (some ⟨W.heap.size, 0, none⟩) n n) (W.alloc (.cells cs t)) := by
  obtain ⟨i, z, by_, hi, hz, hsz, hby, hb128, hzs⟩ := el.info
  refine ⟨madeCells z.cells (n * i.size), by rw [size_madeCells, hsz], fun W => ?_⟩
  have hm : by_ * n ≤ 128 * n := Nat.mul_le_mul_right _ hb128
  unfold lim at hn
  have := run_make (P := P) W T t i z el.under hi hz .i64 .i64 n n (by omega) (Int.le_refl _) (by rw [hby]; rw [← Int.natCast_mul]; omega) (by omega)
  simpa using this
/-- a row of one's own: the cells ahead of k are the list's -/
def RowTo (w : World) (g : Nat) (n : Nat) (l : List Int) (k : Nat) : Prop := ∃ cs : Array Value, Blk w g 3 cs ∧ cs.size = n ∧ ∀ i x, i < k → l[i]? = some x → cs[i]? = some (.int .i64 x)
theorem RowTo.put {w W : World} {g n k : Nat} {l : List Int} {x : Int} (h : RowTo w g n l k) (e : Ext w W) (hx : l[k]? = some x) (hk : k < n) : RowTo (W.setCell ⟨g, k, none⟩ (.int .i64 x)) g n l (k + 1) := by
  obtain ⟨cs, h1, h2, h3⟩ := h
  refine ⟨_, (h1.ext e).set_ k (.int .i64 x), by simpa using h2, fun i y hi hy => ?_⟩
  rw [Array.getElem?_setIfInBounds]
  by_cases hik : k = i
  · subst hik
    rw [hx] at hy
    rw [if_pos rfl, if_pos (by omega), Option.some.inj hy]
  · rw [if_neg hik]; exact h3 i y (by omega) hy
/-- a slice in a block that the call laid -/
def NewIn (w w' : World) (u : Value) : Prop := ∃ g, u.ownBlock = some g ∧ w.heap.size ≤ g ∧ g < w'.heap.size
set_option maxRecDepth 4000 in
set_option maxHeartbeats 1000000 in
theorem toIntS_c {v : Value} {xs : List Int} (w : World) (h : AInts w v xs) (hl : xs.length ≤ lim) :
    Calls Tryd.prog 52 #[v] w (RetP (fun u w' => u = .slice (some ⟨w.heap.size, 0, none⟩) xs.length xs.length ∧ Ints w.heap.size w' u xs ∧ NewIn w w' u) w) := by
  obtain ⟨A, c, rfl, hlc, ⟨hcm, hA⟩, hel⟩ := h
  obtain ⟨cs0, hcs, hmk⟩ := run_mk el_int xs.length hl
  have hlim := Lib.hid hl
  have hin : Hid (∀ k x, xs[k]? = some x → inI x) := Lib.hid fun k x hx => by obtain ⟨b, o, _, _, h⟩ := hel k x hx; exact h
  unfold lim at hl
  have hex : ∃ n, xs.length = n := ⟨_, rfl⟩
  obtain ⟨n, hn⟩ := hex
  rw [hn] at hl hmk hcs ⊢
  have Hn := Lib.hid hn
  have HE := Lib.hid hel
  have Hcs := Lib.hid hcs
  clear hel hlc hcm hA hn hcs
  go_enter Tryd.func52, Tryd.ntmps52
  go_wp2
  clear hmk
  go_loopw [4] (fun i wr => ∃ k : Nat, k ≤ n ∧ i = .int .i64 k ∧ Ext w wr ∧ Hid (RowTo wr w.heap.size n xs k)) (fun i _ => n - (intOf i).toNat)
  case atStart => exact ⟨0, by omega, rfl, (Ext.refl w).alloc _, Lib.hid ⟨cs0, Blk.new _ _ _, by simpa using Hcs.out, fun i x hi => by omega⟩⟩
  case round =>
    obtain ⟨k, hk, rfl, he, hR⟩ := hrel
    by_cases hlt : k < n
    · obtain ⟨x, hx⟩ := get_of_lt (l := xs) (k := k) (by rw [Hn.out]; exact hlt)
      obtain ⟨b, o, rfl, hc0, hI⟩ := HE.out k x hx
      have a0 := he.cell hc0
      rw [Nat.mul_one] at a0
      have f0 : wr.frozen? ⟨w.heap.size, k, none⟩ = false := by obtain ⟨cs, h1, -⟩ := hR.out; exact h1.frozen k
      have d0 : ∃ u, wr.cell? ⟨w.heap.size, k, none⟩ = some u := by
        obtain ⟨cs, h1, h2, -⟩ := hR.out
        rw [h1.cell]; exact ⟨cs[k], by simp [h2, hlt]⟩
      obtain ⟨u0, d0⟩ := d0
      have Hx := Lib.hid hx
      clear hc0 hx
      go_wp2
      go_roundw
      case rel => exact ⟨k + 1, by omega, by go_num, he.setCell (Nat.le_refl _) _, Lib.hid (hR.out.put (Ext.refl _) Hx.out hlt)⟩
      case measure => simp [intOf]; omega
    · have hks : k = n := by omega
      subst hks
      go_wp2
      go_ret
      refine ⟨.slice (some ⟨w.heap.size, 0, none⟩) k k, rfl, ⟨rfl, ⟨some ⟨w.heap.size, 0, none⟩, k, by rw [Hn.out], by rw [Hn.out]; exact Nat.le_refl _, ⟨by unfold maxLen; omega, fun h => by cases h⟩, hlim.out, fun i x hx => ?_⟩, ⟨w.heap.size, rfl, Nat.le_refl _, by obtain ⟨cs, h1, -⟩ := hR.out; exact h1.lt⟩⟩, he⟩
      obtain ⟨cs, h1, h2, h3⟩ := hR.out
      refine ⟨w.heap.size, 0, cs, rfl, Nat.le_refl _, h1, ?_, hin.out i x hx⟩
      have := lt_of_get hx
      rw [Nat.zero_add, Nat.mul_one]
      exact h3 i x (by have := Hn.out; omega) hx
/-- an item whose slice of ids is told, too -/
def EItU (B : Nat) (w : World) (cs : Array Value) (p : Nat) (q : It × Value) : Prop :=
  cs[p]? = some (.string q.1.path) ∧ q.1.path.size < lim ∧ cs[p + 1]? = some (.bool q.1.dir) ∧ cs[p + 2]? = some q.2 ∧ Ints B w q.2 q.1.ids
def ItsU (B : Nat) (w : World) (v : Value) (l : List (It × Value)) : Prop := SlOf B 68 3 (EItU B) w v l
/-- no two of them share their ints -/
def Sep {α : Type} (l : List (α × Value)) : Prop := l.Pairwise fun a b => ∀ g, a.2.ownBlock = some g → b.2.ownBlock ≠ some g
set_option maxRecDepth 4000 in
set_option maxHeartbeats 1000000 in
theorem toItem_c {v : Value} {x : It} (w : World) (h : AItV w v x) (hps : x.path.size < lim) (hl : x.ids.length ≤ lim) :
    Calls Tryd.prog 37 #[v] w (RetP (fun r w' => ∃ u, r = .agg #[.string x.path, .bool x.dir, u] ∧ Ints w.heap.size w' u x.ids ∧ NewIn w w' u) w) := by
  obtain ⟨xp, xd, xi⟩ := x
  obtain ⟨u, rfl, -, hu⟩ := h
  simp only at hps hu hl
  have Hl := Lib.hid hl
  have HU := Lib.hid hu
  clear hu hl
  go_enter Tryd.func37, Tryd.ntmps37
  go_wp2_with fail
  refine (toIntS_c _ (HU.out.ext (by (repeat' (first | exact Ext.refl _ | assumption | refine Ext.alloc ?_ _ | refine Ext.drew ?_ | refine Ext.drewN ?_ _)))) Hl.out).mono ?_
  rintro e w4 ⟨r, rfl, ⟨rfl, hI, hN⟩, he⟩
  obtain ⟨g, hg1, hg2, hg3⟩ := hN
  simp only [World.size_alloc] at hI hg1 hg2 ⊢
  have hb2 := ((Blk.new (w.alloc (.cells #[.string xp, .bool xd, u] 60)) 68 #[.string ⟨#[]⟩, .bool false, .slice none 0 0]).alloc (.cells #[.string xp, .bool xd, .slice none 0 0] 68)).ext he
  have hb3 := (Blk.new ((w.alloc (.cells #[.string xp, .bool xd, u] 60)).alloc (.cells #[.string ⟨#[]⟩, .bool false, .slice none 0 0] 68)) 68 #[.string xp, .bool xd, .slice none 0 0]).ext he
  simp only [World.size_alloc] at hb2 hb3
  have he4 : Ext w w4 := Ext.trans (by (repeat' (first | exact Ext.refl _ | assumption | refine Ext.alloc ?_ _ | refine Ext.drew ?_ | refine Ext.drewN ?_ _))) he
  have c0 := hb3.cell 0; have c1 := hb3.cell 1; have c2 := hb3.cell 2
  have d0 := hb2.cell 0; have d1 := hb2.cell 1; have d2 := hb2.cell 2
  have f2 := hb3.frozen 2
  have g0 := hb2.frozen 0; have g1 := hb2.frozen 1; have g2 := hb2.frozen 2
  simp at c0 c1 c2 d0 d1 d2
  have HI := Lib.hid hI; have Hb2 := Lib.hid hb2; have Hb3 := Lib.hid hb3
  have Hg : Hid (∃ g, (Value.slice (some ⟨w.heap.size + 1 + 1 + 1, 0, none⟩) xi.length xi.length).ownBlock = some g ∧ w.heap.size ≤ g ∧ g < w4.heap.size) := Lib.hid ⟨g, hg1, by omega, hg3⟩
  clear hI hb2 hb3 he hg1 hg2 hg3
  have hgg : ∃ gg, w.heap.size + 1 + 1 + 1 = gg := ⟨_, rfl⟩
  obtain ⟨gg, hgg⟩ := hgg
  rw [hgg] at HI Hg ⊢
  have hge : w.heap.size ≤ gg := by omega
  clear hgg
  go_wp2
  have B2 := Hb3.out.far (p := ⟨w.heap.size + 1, 2, none⟩) (by simp) (.slice (some ⟨gg, 0, none⟩) xi.length xi.length)
  have K0 : KeepsT 68 w4 _ := KeepsT.set (i := 2) Hb3.out (.slice (some ⟨gg, 0, none⟩) xi.length xi.length) rfl
  have E0 := he4.setCell (p := ⟨w.heap.size + 1 + 1, 2, none⟩) (by simp; omega) (.slice (some ⟨gg, 0, none⟩) xi.length xi.length)
  have B1 := Hb2.out.far (p := ⟨w.heap.size + 1 + 1, 2, none⟩) (by simp) (.slice (some ⟨gg, 0, none⟩) xi.length xi.length)
  have s0 : (w4.setCell ⟨w.heap.size + 1 + 1, 2, none⟩ (.slice (some ⟨gg, 0, none⟩) xi.length xi.length)).heap.size = w4.heap.size := World.size_setCell _ _ _
  generalize w4.setCell ⟨w.heap.size + 1 + 1, 2, none⟩ (.slice (some ⟨gg, 0, none⟩) xi.length xi.length) = w5 at *
  have B3 := ((B1.set_ 0 (.string xp)).set_ 1 (.bool xd)).set_ 2 (.slice (some ⟨gg, 0, none⟩) xi.length xi.length)
  have K1 := K0.trans ((KeepsT.set (i := 0) B1 (.string xp) rfl).trans ((KeepsT.set (i := 1) (B1.set_ 0 (.string xp)) (.bool xd) rfl).trans (KeepsT.set (i := 2) ((B1.set_ 0 (.string xp)).set_ 1 (.bool xd)) (.slice (some ⟨gg, 0, none⟩) xi.length xi.length) rfl)))
  have E3 := ((E0.setCell (p := ⟨w.heap.size + 1, 0, none⟩) (by simp) (.string xp)).setCell (p := ⟨w.heap.size + 1, 1, none⟩) (by simp) (.bool xd)).setCell (p := ⟨w.heap.size + 1, 2, none⟩) (by simp) (.slice (some ⟨gg, 0, none⟩) xi.length xi.length)
  have s3 : (((w5.setCell ⟨w.heap.size + 1, 0, none⟩ (.string xp)).setCell ⟨w.heap.size + 1, 1, none⟩ (.bool xd)).setCell ⟨w.heap.size + 1, 2, none⟩ (.slice (some ⟨gg, 0, none⟩) xi.length xi.length)).heap.size = w4.heap.size := by simp [s0]
  simp at B3
  generalize ((w5.setCell ⟨w.heap.size + 1, 0, none⟩ (.string xp)).setCell ⟨w.heap.size + 1, 1, none⟩ (.bool xd)).setCell ⟨w.heap.size + 1, 2, none⟩ (.slice (some ⟨gg, 0, none⟩) xi.length xi.length) = w6 at *
  have z0 := B3.cell 0; have z1 := B3.cell 1; have z2 := B3.cell 2
  simp at z0 z1 z2
  have HI' : Ints w.heap.size w6 (.slice (some ⟨gg, 0, none⟩) xi.length xi.length) xi := SlOf.mono (SlOf.keepT (show SlOf _ _ _ _ w4 (.slice (some ⟨gg, 0, none⟩) xi.length xi.length) xi from HI.out) K1 (by decide) (fun _ _ _ h => h)) hge (fun _ _ _ => rfl) (fun _ _ _ h => h)
  exact bodyPost_ret (v := .agg #[.string xp, .bool xd, (.slice (some ⟨gg, 0, none⟩) xi.length xi.length)]) (by simp [results, Tryd.results37, go_sem, z0, z1, z2]) rfl ⟨_, rfl, ⟨_, rfl, HI', by obtain ⟨g, h1, h2, h3⟩ := Hg.out; exact ⟨g, h1, h2, by rw [s3]; exact h3⟩⟩, E3⟩
/-- a row of items of the call's own at g: the first k are there -/
def RowItU (w : World) (g n : Nat) (l : List It) (k : Nat) : Prop := ∃ (lu : List (It × Value)) (cs : Array Value), lu.length = k ∧ lu.map Prod.fst = l.take k ∧ Blk w g 68 cs ∧ cs.size = n * 3 ∧
  (∀ i q, lu[i]? = some q → EItU g w cs (i * 3) q) ∧ Sep lu ∧ ∀ q, q ∈ lu → ∃ b, q.2.ownBlock = some b ∧ b < w.heap.size
theorem Sep.snoc {α : Type} {l : List (α × Value)} {q : α × Value} (h : Sep l) (hq : ∀ p, p ∈ l → ∀ g, p.2.ownBlock = some g → q.2.ownBlock ≠ some g) : Sep (l ++ [q]) := by
  unfold Sep at h ⊢
  rw [List.pairwise_append]
  exact ⟨h, List.pairwise_singleton _ _, fun a ha b hb => by rw [List.mem_singleton] at hb; subst hb; exact hq a ha⟩
theorem EItU.keepT {B : Nat} {t : TypeId} {w w' : World} {cs : Array Value} {p : Nat} {q : It × Value} (h : EItU B w cs p q) (hk : KeepsT t w w') (ht : 3 ≠ t) : EItU B w' cs p q :=
  let ⟨h1, h2, h3, h4, h5⟩ := h; ⟨h1, h2, h3, h4, h5.keepT hk ht⟩
theorem EItU.keep {B B' : Nat} {w w' : World} {cs : Array Value} {p : Nat} {q : It × Value} (h : EItU B w cs p q) (hB : B' ≤ B) (hk : Keeps B w w') : EItU B' w' cs p q :=
  let ⟨h1, h2, h3, h4, h5⟩ := h; ⟨h1, h2, h3, h4, h5.keep hB hk⟩
theorem EItU.loc {B : Nat} {w : World} {cs cs' : Array Value} {p p' : Nat} {q : It × Value} (h : EItU B w cs p q) (hj : ∀ j, j < 3 → cs'[p' + j]? = cs[p + j]?) : EItU B w cs' p' q := by
  obtain ⟨h1, h2, h3, h4, h5⟩ := h
  have j0 := hj 0 (by omega); have j1 := hj 1 (by omega); have j2 := hj 2 (by omega)
  simp only [Nat.add_zero] at j0
  exact ⟨j0.trans h1, h2, j1.trans h3, j2.trans h4, h5⟩
theorem EItU_ok (B : Nat) : ElOk 68 3 (EItU B) := ⟨fun _ _ _ _ _ hk h => h.keepT hk (by decide), fun _ _ _ _ _ _ hj h => h.loc hj, fun _ _ _ _ ⟨h1, _, h3, h4, h5⟩ j hj => match j, hj with
  | 0, _ => ⟨_, h1, rfl⟩
  | 1, _ => ⟨_, h3, rfl⟩
  | 2, _ => ⟨_, h4, h5.one⟩⟩
theorem ItsU.its {B : Nat} {w : World} {v : Value} {lu : List (It × Value)} (h : ItsU B w v lu) : Its B w v (lu.map Prod.fst) := by
  obtain ⟨A, c, rfl, h1, h2, h3, h4⟩ := h
  refine ⟨A, c, by rw [List.length_map], by rw [List.length_map]; exact h1, h2, by rw [List.length_map]; exact h3, fun k x hx => ?_⟩
  rw [List.getElem?_map, Option.map_eq_some_iff] at hx
  obtain ⟨q, hq, rfl⟩ := hx
  obtain ⟨b, o, cs, e1, e2, e3, f1, f2, f3, f4, f5⟩ := h4 k q hq
  exact ⟨b, o, cs, e1, e2, e3, f1, f2, f3, ⟨_, f4, f5⟩⟩
theorem ItsU.keep {B B' : Nat} {w w' : World} {v : Value} {lu : List (It × Value)} (h : ItsU B w v lu) (hB : B' ≤ B) (hk : Keeps B w w') : ItsU B' w' v lu := SlOf.mono h hB hk fun _ _ _ e => e.keep hB hk
theorem ItsU.ext {B : Nat} {w w' : World} {v : Value} {lu : List (It × Value)} (h : ItsU B w v lu) (e : Ext w w') : ItsU B w' v lu := h.keep (Nat.le_refl _) (e.keeps _)
theorem RowItU.put {w W : World} {g n k : Nat} {l : List It} {x : It} {u : Value} (h : RowItU w g n l k) (e : Ext w W) (hx : l[k]? = some x) (hk : k < n) (hps : x.path.size < lim) (hu : Ints w.heap.size W u x.ids) (hN : NewIn w W u) :
    RowItU (((W.setCell ⟨g, k * 3, none⟩ (.string x.path)).setCell ⟨g, k * 3 + 1, none⟩ (.bool x.dir)).setCell ⟨g, k * 3 + 2, none⟩ u) g n l (k + 1) := by
  obtain ⟨lu, cs, h1, h2, h3, h4, h5, h6, h7⟩ := h
  have hg := h3.lt
  have B0 := h3.ext e
  have B1 := B0.set_ (k * 3) (.string x.path)
  have B2 := B1.set_ (k * 3 + 1) (.bool x.dir)
  have B3 := B2.set_ (k * 3 + 2) u
  have K := (KeepsT.set (i := k * 3) B0 (.string x.path) rfl).trans ((KeepsT.set (i := k * 3 + 1) B1 (.bool x.dir) rfl).trans (KeepsT.set (i := k * 3 + 2) B2 u rfl))
  refine ⟨lu ++ [(x, u)], _, by simp [h1], by rw [List.map_append, h2, List.take_add_one, hx]; rfl, B3, by simpa using h4, ?_, ?_, ?_⟩
  · intro i q hq
    have cell : ∀ j, (((cs.setIfInBounds (k * 3) (.string x.path)).setIfInBounds (k * 3 + 1) (.bool x.dir)).setIfInBounds (k * 3 + 2) u)[j]? = if j = k * 3 + 2 then some u else if j = k * 3 + 1 then some (.bool x.dir) else if j = k * 3 then some (.string x.path) else cs[j]? := fun j => by
      simp only [Array.getElem?_setIfInBounds, Array.size_setIfInBounds]
      by_cases q2 : j = k * 3 + 2
      · subst q2; rw [if_pos rfl, if_pos (by omega), if_pos rfl]
      · rw [if_neg (fun h => q2 h.symm), if_neg q2]
        by_cases q1 : j = k * 3 + 1
        · subst q1; rw [if_pos rfl, if_pos (by omega), if_pos rfl]
        · rw [if_neg (fun h => q1 h.symm), if_neg q1]
          by_cases q0 : j = k * 3
          · subst q0; rw [if_pos rfl, if_pos (by omega), if_pos rfl]
          · rw [if_neg (fun h => q0 h.symm), if_neg q0]
    rcases Nat.lt_or_ge i k with hik | hik
    · rw [List.getElem?_append_left (by omega)] at hq
      refine (((h5 i q hq).keep (Nat.le_refl _) (e.keeps _)).keepT K (by decide)).loc fun j hj => ?_
      rw [cell, if_neg (by omega), if_neg (by omega), if_neg (by omega)]
    · rw [List.getElem?_append_right (by omega), h1] at hq
      have hik' : i = k := by
        have := lt_of_get hq
        simp at this; omega
      subst hik'
      simp at hq
      subst hq
      refine ⟨?_, hps, ?_, ?_, (hu.keep (Nat.le_of_lt hg) (fun _ _ _ => rfl)).keepT K (by decide)⟩
      · rw [cell, if_neg (by omega), if_neg (by omega), if_pos rfl]
      · rw [cell, if_neg (by omega), if_pos rfl]
      · rw [cell, if_pos rfl]
  · obtain ⟨b, hb1, hb2, hb3⟩ := hN
    refine h6.snoc fun p hp g' hg' hq => ?_
    obtain ⟨b', hb', hlt⟩ := h7 p hp
    rw [hb'] at hg'
    simp only at hq
    rw [hb1] at hq
    have := Option.some.inj hg'; have := Option.some.inj hq
    omega
  · intro q hq
    have hsz : (((W.setCell ⟨g, k * 3, none⟩ (.string x.path)).setCell ⟨g, k * 3 + 1, none⟩ (.bool x.dir)).setCell ⟨g, k * 3 + 2, none⟩ u).heap.size = W.heap.size := by simp
    rw [hsz]
    rw [List.mem_append, List.mem_singleton] at hq
    rcases hq with hq | rfl
    · obtain ⟨b, hb, hlt⟩ := h7 q hq
      exact ⟨b, hb, Nat.lt_of_lt_of_le hlt e.size⟩
    · obtain ⟨b, hb1, hb2, hb3⟩ := hN
      exact ⟨b, hb1, hb3⟩
set_option maxRecDepth 4000 in
set_option maxHeartbeats 1000000 in
theorem toItemS_c {v : Value} {l : List It} (w : World) (h : AIts w v l) (hb : bkIts l ≤ 1048576) :
    Calls Tryd.prog 18 #[v] w (RetP (fun u w' => ∃ lu, lu.map Prod.fst = l ∧ ItsU w.heap.size w' u lu ∧ Sep lu) w) := by
  obtain ⟨A, c, rfl, hlc, ⟨hcm, hA⟩, hel⟩ := h
  have hl : l.length ≤ 1048576 := by unfold bkIts at hb; omega
  have hbd : Hid (∀ (k : Nat) (x : It), l[k]? = some x → x.path.size < lim ∧ x.ids.length ≤ lim) := Lib.hid fun k x hx => by
    have h1 := bk_take_le l (k + 1)
    rw [bk_take hx] at h1
    have hbk : bkIt x = x.path.size + x.ids.length := rfl
    unfold bkIts at hb; unfold lim; omega
  have hlim : Hid (l.length ≤ lim) := Lib.hid (by unfold lim; omega)
  obtain ⟨cs0, hcs, hmk⟩ := run_mk el_It l.length hlim.out
  have hex : ∃ n, l.length = n := ⟨_, rfl⟩
  obtain ⟨n, hn⟩ := hex
  rw [hn] at hl hmk hcs ⊢
  have Hn := Lib.hid hn
  have HE := Lib.hid hel
  have Hcs := Lib.hid hcs
  clear hel hlc hcm hA hn hcs hb
  go_enter Tryd.func18, Tryd.ntmps18
  go_wp2
  clear hmk
  go_loopw [4] (fun i wr => ∃ k : Nat, k ≤ n ∧ i = .int .i64 k ∧ Ext w wr ∧ Hid (RowItU wr w.heap.size n l k)) (fun i _ => n - (intOf i).toNat)
  case atStart => exact ⟨0, by omega, rfl, (Ext.refl w).alloc _, Lib.hid ⟨[], cs0, rfl, rfl, Blk.new _ _ _, Hcs.out, fun i x hi => by simp at hi, List.Pairwise.nil, fun q hq => by simp at hq⟩⟩
  case round =>
    obtain ⟨k, hk, rfl, he, hR⟩ := hrel
    by_cases hlt : k < n
    · obtain ⟨x, hx⟩ := get_of_lt (l := l) (k := k) (by rw [Hn.out]; exact hlt)
      obtain ⟨b, o, rfl, hc0, hps, hc1, u, hc2, hu⟩ := HE.out k x hx
      obtain ⟨hp1, hp2⟩ := hbd.out k x hx
      obtain ⟨Au, cu, rfl, hU⟩ := hu
      have Hs := Lib.hid (toItem_c (x := x) wr ⟨_, rfl, hps, AInts.ext ⟨_, _, rfl, hU⟩ he⟩ hp1 hp2)
      have a0 := he.cell hc0; have a1 := he.cell hc1; have a2 := he.cell hc2
      have Hx := Lib.hid hx; have Hp1 := Lib.hid hp1
      clear hc0 hc1 hc2 hU hx hps hp1 hp2
      go_wp2_with fail
      refine Hs.out.mono ?_
      rintro e w1 ⟨r, rfl, ⟨u, rfl, hu, hN⟩, he1⟩
      have ff := fun i => show w1.frozen? ⟨w.heap.size, i, none⟩ = false from by obtain ⟨lu, cs, -, -, h1, -⟩ := hR.out; exact (h1.ext he1).frozen i
      have dd : ∀ i, i < n * 3 → ∃ u, w1.cell? ⟨w.heap.size, i, none⟩ = some u := fun i hi => by
        obtain ⟨lu, cs, -, -, h1, h2, -⟩ := hR.out
        rw [(h1.ext he1).cell]; exact ⟨cs[i], by simp [h2, hi]⟩
      obtain ⟨z0, d0⟩ := dd (k * 3) (by omega); obtain ⟨z1, d1⟩ := dd (k * 3 + 1) (by omega); obtain ⟨z2, d2⟩ := dd (k * 3 + 2) (by omega)
      have f0 := ff (k * 3); have f1 := ff (k * 3 + 1); have f2 := ff (k * 3 + 2)
      have Hu := Lib.hid hu; have HN := Lib.hid hN
      obtain ⟨A2, c2, rfl, -⟩ := hu
      clear ff dd hN a0 a1 a2
      go_wp2
      go_roundw
      case rel => exact ⟨k + 1, by omega, by go_num, (((he.trans he1).setCell (Nat.le_refl _) _).setCell (Nat.le_refl _) _).setCell (Nat.le_refl _) _, Lib.hid (hR.out.put he1 Hx.out hlt Hp1.out Hu.out HN.out)⟩
      case measure => simp [intOf]; omega
    · have hks : k = n := by omega
      subst hks
      go_wp2
      go_ret
      obtain ⟨lu, cs, h1, h2, h3, h4, h5, h6, h7⟩ := hR.out
      refine ⟨.slice (some ⟨w.heap.size, 0, none⟩) k k, rfl, ⟨lu, by rw [h2]; exact List.take_of_length_le (by rw [Hn.out]; omega), ⟨some ⟨w.heap.size, 0, none⟩, k, by rw [h1], by rw [h1]; exact Nat.le_refl _, ⟨by unfold maxLen; omega, fun h => by cases h⟩, by rw [h1]; unfold lim; omega, fun i x hx => ?_⟩, h6⟩, he⟩
      refine ⟨w.heap.size, 0, cs, rfl, Nat.le_refl _, h3, ?_⟩
      rw [Nat.zero_add]
      exact h5 i x hx
end Go.Sf

/-! The marks that the exact laws write: their texts. -/
namespace Go.Sf
open Go Go.RowKit Go.Proofs
def decs : Nat → Nat → ByteArray → ByteArray
  | 0, _, s => s
  | f + 1, n, s => if n = 0 then s else decs f (n / 10) ((⟨#[UInt8.ofNat (48 + n % 10)]⟩ : ByteArray) ++ s)
/-- the text of a mark -/
def mt (k : Int) : ByteArray := if k ≤ 0 then ⟨#[109, 48]⟩ else (⟨#[109]⟩ : ByteArray) ++ decs 20 k.toNat ⟨#[]⟩
theorem decs_size : ∀ (f n : Nat) (s : ByteArray), (decs f n s).size ≤ s.size + f := by
  intro f
  induction f with
  | zero => intro n s; exact Nat.le_refl _
  | succ f ih =>
    intro n s
    rw [decs]
    split
    · omega
    · refine Nat.le_trans (ih _ _) ?_
      simp only [ByteArray.size_append]
      show 1 + s.size + f ≤ _
      omega
theorem mt_size (k : Int) : (mt k).size < lim := by
  unfold mt lim
  split
  · show 2 < _; omega
  · have := decs_size 20 k.toNat ⟨#[]⟩
    simp only [ByteArray.size_append]
    show 1 + _ < _
    have h0 : (⟨#[]⟩ : ByteArray).size = 0 := rfl
    omega
theorem decs_zero (f : Nat) (t : ByteArray) : decs f 0 t = t := by cases f <;> rfl
end Go.Sf

/-! Rows of the call's own are marked: markIntS, markItemS; what they leave alone. -/
namespace Go.Sf
open Go Go.RowKit Go.Proofs
/-- nothing but the blocks in S has changed; new ones may have come -/
def Mod (S : Nat → Prop) (w w' : World) : Prop := (w'.os = w.os ∧ w'.tape = w.tape ∧ w'.output = w.output) ∧ w.heap.size ≤ w'.heap.size ∧ ∀ b, b < w.heap.size → ¬ S b → w'.heap[b]? = w.heap[b]?
section
variable {S S' : Nat → Prop} {w w' w'' w0 : World}
theorem Ext.mod (h : Ext w w') (S : Nat → Prop) : Mod S w w' := ⟨⟨Below.os h, Below.tape h, Below.output h⟩, h.size, fun _ hb _ => h.block hb⟩
theorem Mod.refl (S : Nat → Prop) (w : World) : Mod S w w := (Ext.refl w).mod S
theorem Mod.trans (h : Mod S w w') (k : Mod S w' w'') : Mod S w w'' :=
  ⟨⟨k.1.1.trans h.1.1, k.1.2.1.trans h.1.2.1, k.1.2.2.trans h.1.2.2⟩, Nat.le_trans h.2.1 k.2.1, fun b hb hs => (k.2.2 b (Nat.lt_of_lt_of_le hb h.2.1) hs).trans (h.2.2 b hb hs)⟩
theorem Mod.mono (h : Mod S w w') (hs : ∀ b, S b → S' b) : Mod S' w w' := ⟨h.1, h.2.1, fun b hb hn => h.2.2 b hb fun h => hn (hs b h)⟩
theorem Mod.size (h : Mod S w w') : w.heap.size ≤ w'.heap.size := h.2.1
theorem Mod.keeps {B : Nat} (h : Mod S w w') (hs : ∀ b, S b → b < B) : Keeps B w w' := fun b hB hb => h.2.2 b hb fun k => by have := hs b k; omega
theorem Mod.ext (h : Mod S w w') (h0 : Ext w0 w) (hs : ∀ b, S b → w0.heap.size ≤ b) : Ext w0 w' :=
  ⟨h.1.1.trans (Below.os h0 : w.os = w0.os), h.1.2.1.trans (Below.tape h0 : w.tape = w0.tape), h.1.2.2.trans (Below.output h0 : w.output = w0.output), Nat.le_trans h0.size h.2.1, fun b hb => (h.2.2 b (Nat.lt_of_lt_of_le hb h0.size) (fun k => by have := hs b k; omega)).trans (h0.block hb)⟩
theorem Mod.set {p : Addr} (hp : S p.block) (u : Value) : Mod S w (w.setCell p u) :=
  ⟨⟨rfl, rfl, rfl⟩, by simp [World.setCell], fun k _ hk => Below.heap_setCell w p u k fun e => hk (e ▸ hp)⟩
theorem Mod.blk (h : Mod S w w') {b : Nat} {t : TypeId} {cs : Array Value} (hb : Blk w b t cs) (hs : ¬ S b) : Blk w' b t cs := (h.2.2 b hb.lt hs).trans hb
end
theorem SlIn.mod {α : Type} {B : Nat} {t : TypeId} {sz : Nat} {E E' : World → Array Value → Nat → α → Prop} {S : Nat → Prop} {w w' : World} {A : Option Addr} {c : Nat} {l : List α} (h : SlIn B t sz E w A c l) (hm : Mod S w w')
    (hs : ∀ b o, A = some ⟨b, o, none⟩ → ¬ S b) (hE : ∀ (k : Nat) (x : α) (cs : Array Value) (p : Nat), l[k]? = some x → E w cs p x → E' w' cs p x) : SlIn B t sz E' w' A c l :=
  ⟨h.1, h.2.1, h.2.2.1, fun k x hx => let ⟨b, o, cs, e1, e2, e3, e4⟩ := h.2.2.2 k x hx; ⟨b, o, cs, e1, e2, hm.blk e3 (hs b o e1), hE k x _ _ hx e4⟩⟩
theorem Blk.inj {w : World} {b : Nat} {t t' : TypeId} {cs cs' : Array Value} (h : Blk w b t cs) (h' : Blk w b t' cs') : cs = cs' := by
  unfold Blk at h h'
  rw [h] at h'
  simp only [Option.some.injEq, Obj.cells.injEq] at h'
  exact h'.1
/-- block b holds the ints xs of the slice u -/
def Own (u : Value) (xs : List Int) (b : Nat) : Prop := u.ownBlock = some b ∧ xs ≠ []
theorem Ints.own {B : Nat} {w : World} {u : Value} {xs : List Int} (h : Ints B w u xs) {b : Nat} (ho : Own u xs b) : B ≤ b ∧ ∃ cs, Blk w b 3 cs := by
  obtain ⟨A, c, rfl, -, -, -, h⟩ := h
  obtain ⟨ho, hn⟩ := ho
  cases xs with
  | nil => exact absurd rfl hn
  | cons x xs =>
    obtain ⟨b', o', cs, rfl, h1, h2, -⟩ := h 0 x rfl
    simp only [Value.ownBlock, Option.some.injEq] at ho
    subst ho
    exact ⟨h1, cs, h2⟩
theorem Ints.mod {B : Nat} {S : Nat → Prop} {w w' : World} {u : Value} {xs : List Int} (h : Ints B w u xs) (hm : Mod S w w') (hs : ∀ b, Own u xs b → ¬ S b) : Ints B w' u xs := by
  obtain ⟨A, c, rfl, h⟩ := h
  exact ⟨A, c, rfl, h.1, h.2.1, h.2.2.1, fun k x hx => let ⟨b, o, cs, e1, e2, e3, e4⟩ := h.2.2.2 k x hx; ⟨b, o, cs, e1, e2, hm.blk e3 (hs b ⟨by rw [e1]; rfl, fun e => by rw [e] at hx; simp at hx⟩), e4⟩⟩
/-- one element of a row turns -/
theorem SlIn.upd {α : Type} {B : Nat} {t : TypeId} {sz : Nat} {E : World → Array Value → Nat → α → Prop} {w w' : World} {b o c j : Nat} {L : List α} {x y : α} (h : SlIn B t sz E w (some ⟨b, o, none⟩) c L) (hj : L[j]? = some x)
    (hw : ∀ cs, Blk w b t cs → E w cs (o + j * sz) x → ∃ cs', Blk w' b t cs' ∧ E w' cs' (o + j * sz) y ∧ ∀ i z, i ≠ j → L[i]? = some z → E w cs (o + i * sz) z → E w' cs' (o + i * sz) z) :
    SlIn B t sz E w' (some ⟨b, o, none⟩) c (L.set j y) := by
  obtain ⟨h1, h2, h3, h4⟩ := h
  obtain ⟨b', o', cs, e1, hB, hb, he⟩ := h4 j x hj
  simp only [Option.some.injEq, Addr.mk.injEq, and_true] at e1
  obtain ⟨rfl, rfl⟩ := e1
  obtain ⟨cs', hb', hy, hz⟩ := hw cs hb he
  refine ⟨by simpa using h1, h2, by simpa using h3, fun k z hk => ⟨b, o, cs', rfl, hB, hb', ?_⟩⟩
  rw [List.getElem?_set] at hk
  by_cases hjk : j = k
  · subst hjk
    rw [if_pos rfl, if_pos (lt_of_get hj)] at hk
    rw [← Option.some.inj hk]; exact hy
  · rw [if_neg hjk] at hk
    obtain ⟨b2, o2, cs2, e2, -, hb2, he2⟩ := h4 k z hk
    simp only [Option.some.injEq, Addr.mk.injEq, and_true] at e2
    obtain ⟨rfl, rfl⟩ := e2
    have : cs2 = cs := by
      unfold Blk at hb hb2
      rw [hb] at hb2
      simp only [Option.some.injEq, Obj.cells.injEq] at hb2
      exact hb2.1.symm
    subst this
    exact hz k z (fun e => hjk e.symm) hk he2
theorem set_mid {α : Type} {a r : List α} {x y : α} {j : Nat} (hj : a.length = j) : (a ++ x :: r).set j y = a ++ y :: r := by
  rw [List.set_append_right _ _ (by omega), hj, Nat.sub_self]; rfl
/-! ### ints -/
def mkInts (k : Int) (n : Nat) : List Int := (List.range n).map fun i => k + (i : Nat)
theorem mkInts_len (k : Int) (n : Nat) : (mkInts k n).length = n := by simp [mkInts]
theorem mkInts_succ (k : Int) (n : Nat) : mkInts k (n + 1) = mkInts k n ++ [k + (n : Nat)] := by simp [mkInts, List.range_succ]
/-! ### items -/
def wIt (x : It) : Nat := 2 + x.ids.length
def cIts (l : List It) : Nat := (l.map wIt).sum
def mkIt (k : Int) (x : It) : It := ⟨mt k, ((k + 1) % 3 == 0), mkInts (k + 1 + 1) x.ids.length⟩
def mkItsU : Int → List (It × Value) → List (It × Value)
  | _, [] => []
  | k, q :: r => (mkIt k q.1, q.2) :: mkItsU (k + (wIt q.1 : Nat)) r
def mkIts : Int → List It → List It
  | _, [] => []
  | k, x :: r => mkIt k x :: mkIts (k + (wIt x : Nat)) r
theorem mkItsU_fst : ∀ (k : Int) (l : List (It × Value)), (mkItsU k l).map Prod.fst = mkIts k (l.map Prod.fst) := by
  intro k l
  induction l generalizing k with
  | nil => rfl
  | cons q r ih => rw [mkItsU, List.map_cons, List.map_cons, mkIts, ih]
theorem mkItsU_len (k : Int) (l : List (It × Value)) : (mkItsU k l).length = l.length := by
  induction l generalizing k with
  | nil => rfl
  | cons q r ih => rw [mkItsU, List.length_cons, List.length_cons, ih]
theorem mkItsU_snd (k : Int) (l : List (It × Value)) : (mkItsU k l).map Prod.snd = l.map Prod.snd := by
  induction l generalizing k with
  | nil => rfl
  | cons q r ih => rw [mkItsU, List.map_cons, List.map_cons, ih]
theorem mkItsU_snoc (k : Int) (l : List (It × Value)) (q : It × Value) : mkItsU k (l ++ [q]) = mkItsU k l ++ [(mkIt (k + (cIts (l.map Prod.fst) : Nat)) q.1, q.2)] := by
  induction l generalizing k with
  | nil => simp [mkItsU, cIts]
  | cons p r ih =>
    rw [List.cons_append, mkItsU, ih, mkItsU, List.cons_append]
    have e : k + (wIt p.1 : Nat) + (cIts (r.map Prod.fst) : Nat) = k + (cIts ((p :: r).map Prod.fst) : Nat) := by
      simp only [cIts, List.map_cons, List.sum_cons, Int.natCast_add]; omega
    rw [e]
theorem cIts_take {l : List It} {j : Nat} {x : It} (h : l[j]? = some x) : cIts (l.take (j + 1)) = cIts (l.take j) + wIt x := by
  unfold cIts; rw [List.take_add_one, h]; simp
theorem cIts_take_le (l : List It) (j : Nat) : cIts (l.take j) ≤ cIts l := by
  unfold cIts
  conv => rhs; rw [← List.take_append_drop j l]
  rw [List.map_append, List.sum_append]; omega
/-- the blocks that a row of items and their ids lie in -/
def FootIt (v : Value) (l : List (It × Value)) (b : Nat) : Prop := (v.ownBlock = some b ∧ l ≠ []) ∨ ∃ q, q ∈ l ∧ Own q.2 q.1.ids b
theorem ItsU.foot {B : Nat} {w : World} {v : Value} {l : List (It × Value)} (h : ItsU B w v l) {b : Nat} (hf : FootIt v l b) : B ≤ b ∧ b < w.heap.size := by
  obtain ⟨A, c, rfl, -, -, -, h⟩ := h
  rcases hf with ⟨ho, hn⟩ | ⟨q, hq, ho⟩
  · cases l with
    | nil => exact absurd rfl hn
    | cons x xs =>
      obtain ⟨b', o', cs, rfl, h1, h2, -⟩ := h 0 x rfl
      simp only [Value.ownBlock, Option.some.injEq] at ho
      subst ho
      exact ⟨h1, h2.lt⟩
  · obtain ⟨k, hk⟩ := List.mem_iff_getElem?.1 hq
    obtain ⟨b', o', cs, -, -, -, -, -, -, -, hi⟩ := h k q hk
    obtain ⟨h1, cs', h2⟩ := hi.own ho
    exact ⟨h1, h2.lt⟩
theorem Sep.ne {α : Type} {l : List (α × Value)} (h : Sep l) {i j : Nat} {p q : α × Value} (hi : l[i]? = some p) (hj : l[j]? = some q) (hij : i ≠ j) {g : Nat} (hg : p.2.ownBlock = some g) : q.2.ownBlock ≠ some g := by
  unfold Sep at h
  rw [List.pairwise_iff_getElem] at h
  have h1 := lt_of_get hi; have h2 := lt_of_get hj
  rw [List.getElem?_eq_getElem h1] at hi
  rw [List.getElem?_eq_getElem h2] at hj
  rcases Nat.lt_or_ge i j with hlt | hge
  · have := h i j h1 h2 hlt g
    rw [Option.some.inj hi, Option.some.inj hj] at this
    exact this hg
  · intro hq
    have := h j i h2 h1 (by omega) g
    rw [Option.some.inj hi, Option.some.inj hj] at this
    exact this hq hg
end Go.Sf

/-! Readings with the inner slice told, plain marks, and the walks that mark rows (written by gen_marks.py). -/
namespace Go.Sf
open Go Go.RowKit Go.Proofs
/-! ### impl.Held -/
def EHdU (B : Nat) (w : World) (cs : Array Value) (p : Nat) (q : Hd × Value) : Prop :=
  cs[p]? = some (.int .i64 q.1.id) ∧ inI q.1.id ∧ cs[p + 1]? = some q.2 ∧ cs[p + 2]? = some (.int .i64 q.1.uses) ∧ inI q.1.uses ∧ Ints B w q.2 q.1.bytes
def HdsU (B : Nat) (w : World) (v : Value) (l : List (Hd × Value)) : Prop := SlOf B 46 3 (EHdU B) w v l
theorem EHdU.keepT {B : Nat} {t : TypeId} {w w' : World} {cs : Array Value} {p : Nat} {q : Hd × Value} (h : EHdU B w cs p q) (hk : KeepsT t w w') (ht : 3 ≠ t) : EHdU B w' cs p q :=
  let ⟨y0, g0, y1, y2, g2, hI⟩ := h; ⟨y0, g0, y1, y2, g2, hI.keepT hk ht⟩
theorem EHdU.keep {B B' : Nat} {w w' : World} {cs : Array Value} {p : Nat} {q : Hd × Value} (h : EHdU B w cs p q) (hB : B' ≤ B) (hk : Keeps B w w') : EHdU B' w' cs p q :=
  let ⟨y0, g0, y1, y2, g2, hI⟩ := h; ⟨y0, g0, y1, y2, g2, hI.keep hB hk⟩
theorem EHdU.loc {B : Nat} {w : World} {cs cs' : Array Value} {p p' : Nat} {q : Hd × Value} (h : EHdU B w cs p q) (hj : ∀ j, j < 3 → cs'[p' + j]? = cs[p + j]?) : EHdU B w cs' p' q := by
  obtain ⟨y0, g0, y1, y2, g2, hI⟩ := h
  have j0 := hj 0 (by omega); have j1 := hj 1 (by omega); have j2 := hj 2 (by omega)
  simp only [Nat.add_zero] at j0
  exact ⟨j0.trans y0, g0, j1.trans y1, j2.trans y2, g2, hI⟩
theorem EHdU_ok (B : Nat) : ElOk 46 3 (EHdU B) := ⟨fun _ _ _ _ _ hk h => h.keepT hk (by decide), fun _ _ _ _ _ _ hj h => h.loc hj, fun _ _ _ _ ⟨y0, _, y1, y2, _, hI⟩ j hj => match j, hj with
  | 0, _ => ⟨_, y0, rfl⟩
  | 1, _ => ⟨_, y1, hI.one⟩
  | 2, _ => ⟨_, y2, rfl⟩⟩
theorem HdsU.plain {B : Nat} {w : World} {v : Value} {lu : List (Hd × Value)} (h : HdsU B w v lu) : Hds B w v (lu.map Prod.fst) := by
  obtain ⟨A, c, rfl, h1, h2, h3, h4⟩ := h
  refine ⟨A, c, by rw [List.length_map], by rw [List.length_map]; exact h1, h2, by rw [List.length_map]; exact h3, fun k x hx => ?_⟩
  rw [List.getElem?_map, Option.map_eq_some_iff] at hx
  obtain ⟨q, hq, rfl⟩ := hx
  obtain ⟨b, o, cs, e1, e2, e3, y0, g0, y1, y2, g2, hI⟩ := h4 k q hq
  exact ⟨b, o, cs, e1, e2, e3, y0, g0, ⟨_, y1, hI⟩, y2, g2⟩
theorem HdsU.keep {B B' : Nat} {w w' : World} {v : Value} {lu : List (Hd × Value)} (h : HdsU B w v lu) (hB : B' ≤ B) (hk : Keeps B w w') : HdsU B' w' v lu := SlOf.mono h hB hk fun _ _ _ e => e.keep hB hk
theorem HdsU.ext {B : Nat} {w w' : World} {v : Value} {lu : List (Hd × Value)} (h : HdsU B w v lu) (e : Ext w w') : HdsU B w' v lu := h.keep (Nat.le_refl _) (e.keeps _)
def wHd (x : Hd) : Nat := 2 + x.bytes.length
def cHds (l : List Hd) : Nat := (l.map wHd).sum
def mkHd (k : Int) (x : Hd) : Hd := ⟨k, mkInts (k + 1) x.bytes.length, k + 1 + (x.bytes.length : Nat)⟩
def mkHdsU : Int → List (Hd × Value) → List (Hd × Value)
  | _, [] => []
  | k, q :: r => (mkHd k q.1, q.2) :: mkHdsU (k + (wHd q.1 : Nat)) r
def mkHds : Int → List Hd → List Hd
  | _, [] => []
  | k, x :: r => mkHd k x :: mkHds (k + (wHd x : Nat)) r
theorem mkHdsU_fst : ∀ (k : Int) (l : List (Hd × Value)), (mkHdsU k l).map Prod.fst = mkHds k (l.map Prod.fst) := by
  intro k l
  induction l generalizing k with
  | nil => rfl
  | cons q r ih => rw [mkHdsU, List.map_cons, List.map_cons, mkHds, ih]
theorem mkHdsU_len (k : Int) (l : List (Hd × Value)) : (mkHdsU k l).length = l.length := by
  induction l generalizing k with
  | nil => rfl
  | cons q r ih => rw [mkHdsU, List.length_cons, List.length_cons, ih]
theorem mkHdsU_snd (k : Int) (l : List (Hd × Value)) : (mkHdsU k l).map Prod.snd = l.map Prod.snd := by
  induction l generalizing k with
  | nil => rfl
  | cons q r ih => rw [mkHdsU, List.map_cons, List.map_cons, ih]
theorem mkHdsU_snoc (k : Int) (l : List (Hd × Value)) (q : Hd × Value) : mkHdsU k (l ++ [q]) = mkHdsU k l ++ [(mkHd (k + (cHds (l.map Prod.fst) : Nat)) q.1, q.2)] := by
  induction l generalizing k with
  | nil => simp [mkHdsU, cHds]
  | cons p r ih =>
    rw [List.cons_append, mkHdsU, ih, mkHdsU, List.cons_append]
    have e : k + (wHd p.1 : Nat) + (cHds (r.map Prod.fst) : Nat) = k + (cHds ((p :: r).map Prod.fst) : Nat) := by
      simp only [cHds, List.map_cons, List.sum_cons, Int.natCast_add]; omega
    rw [e]
theorem mkHds_len (k : Int) (l : List Hd) : (mkHds k l).length = l.length := by
  induction l generalizing k with
  | nil => rfl
  | cons q r ih => rw [mkHds, List.length_cons, List.length_cons, ih]
theorem mkHds_get {k : Int} {l : List Hd} {j : Nat} {x : Hd} (h : l[j]? = some x) : (mkHds k l)[j]? = some (mkHd (k + (cHds (l.take j) : Nat)) x) := by
  induction l generalizing k j with
  | nil => simp at h
  | cons p r ih =>
    cases j with
    | zero => simp at h; subst h; simp [mkHds, cHds]
    | succ j =>
      rw [List.getElem?_cons_succ] at h
      rw [mkHds, List.getElem?_cons_succ, ih h]
      have e : k + (wHd p : Nat) + (cHds (r.take j) : Nat) = k + (cHds ((p :: r).take (j + 1)) : Nat) := by
        simp only [cHds, List.take_succ_cons, List.map_cons, List.sum_cons, Int.natCast_add]; omega
      rw [e]
theorem cHds_take {l : List Hd} {j : Nat} {x : Hd} (h : l[j]? = some x) : cHds (l.take (j + 1)) = cHds (l.take j) + wHd x := by
  unfold cHds; rw [List.take_add_one, h]; simp
theorem cHds_take_le (l : List Hd) (j : Nat) : cHds (l.take j) ≤ cHds l := by
  unfold cHds
  conv => rhs; rw [← List.take_append_drop j l]
  rw [List.map_append, List.sum_append]; omega
/-- the blocks that a row of them and their ints lie in -/
def FootHd (v : Value) (l : List (Hd × Value)) (b : Nat) : Prop := (v.ownBlock = some b ∧ l ≠ []) ∨ ∃ q, q ∈ l ∧ Own q.2 q.1.bytes b
theorem HdsU.foot {B : Nat} {w : World} {v : Value} {l : List (Hd × Value)} (h : HdsU B w v l) {b : Nat} (hf : FootHd v l b) : B ≤ b ∧ b < w.heap.size := by
  obtain ⟨A, c, rfl, -, -, -, h⟩ := h
  rcases hf with ⟨ho, hn⟩ | ⟨q, hq, ho⟩
  · cases l with
    | nil => exact absurd rfl hn
    | cons x xs =>
      obtain ⟨b', o', cs, rfl, h1, h2, -⟩ := h 0 x rfl
      simp only [Value.ownBlock, Option.some.injEq] at ho
      subst ho
      exact ⟨h1, h2.lt⟩
  · obtain ⟨k, hk⟩ := List.mem_iff_getElem?.1 hq
    obtain ⟨b', o', cs, -, -, -, -, -, -, -, -, hI⟩ := h k q hk
    obtain ⟨h1, cs', h2⟩ := hI.own ho
    exact ⟨h1, h2.lt⟩
end Go.Sf

/-! What was marked is held: items (written by gen_marks.py). -/
namespace Go.Sf
open Go Go.RowKit Go.Proofs
theorem mkIts_len (k : Int) (l : List It) : (mkIts k l).length = l.length := by
  induction l generalizing k with
  | nil => rfl
  | cons q r ih => rw [mkIts, List.length_cons, List.length_cons, ih]
theorem mkIts_get {k : Int} {l : List It} {j : Nat} {x : It} (h : l[j]? = some x) : (mkIts k l)[j]? = some (mkIt (k + (cIts (l.take j) : Nat)) x) := by
  induction l generalizing k j with
  | nil => simp at h
  | cons p r ih =>
    cases j with
    | zero => simp at h; subst h; simp [mkIts, cIts]
    | succ j =>
      rw [List.getElem?_cons_succ] at h
      rw [mkIts, List.getElem?_cons_succ, ih h]
      have e : k + (wIt p : Nat) + (cIts (r.take j) : Nat) = k + (cIts ((p :: r).take (j + 1)) : Nat) := by
        simp only [cIts, List.take_succ_cons, List.map_cons, List.sum_cons, Int.natCast_add]; omega
      rw [e]
end Go.Sf

/-! Arguments that are changes: how large they are; copies of them. -/
namespace Go.Sf
open Go Go.RowKit Go.Proofs
end Go.Sf
