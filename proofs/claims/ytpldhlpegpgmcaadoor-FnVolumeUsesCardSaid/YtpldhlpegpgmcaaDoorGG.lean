/- The reader draws a number. -/
import Derived.Test.YtpldhlpegpgmcaaDoorGA
import Derived.Test.YtpldhlpegpgmcaaDoorChecked
import Derived.IntWalk
import Derived.Test.YtpldhlpegpgmcaaDoorGE
import Derived.Test.YtpldhlpegpgmcaaDoorGD
import Derived.Test.YtpldhlpegpgmcaaDoorGH
import Derived.Test.YtpldhlpegpgmcaaDoorT21
/-! The reader draws a number. -/
namespace Go.Sf
open Go Go.RowKit Go.Proofs
theorem xor_i64 (a b : Nat) (ha : a < 4611686018427387904) (hb : b < 4611686018427387904) : bits .xor .i64 (a : Int) (b : Int) = ((a ^^^ b : Nat) : Int) ∧ a ^^^ b < 4611686018427387904 := by
  have hx : a ^^^ b < 2 ^ 62 := Nat.xor_lt_two_pow (by omega) (by omega)
  have h1 : (BitVec.ofInt 64 (a : Int)).toNat = a := by
    rw [BitVec.ofInt_natCast, BitVec.toNat_ofNat]; exact Nat.mod_eq_of_lt (by omega)
  have h2 : (BitVec.ofInt 64 (b : Int)).toNat = b := by
    rw [BitVec.ofInt_natCast, BitVec.toNat_ofNat]; exact Nat.mod_eq_of_lt (by omega)
  refine ⟨?_, by omega⟩
  show IntKind.i64.wrap ((BitVec.ofInt 64 (a : Int) ^^^ BitVec.ofInt 64 (b : Int)).toNat : Int) = _
  rw [BitVec.toNat_xor, h1, h2]
  exact IntWalk.i64_in _ (by omega)
theorem xor_shift_nn (X : Int) (h0 : 0 ≤ X) (h1 : X ≤ 1000000000000000) : 0 ≤ bits .xor .i64 X (X / 64) := by
  obtain ⟨a, rfl⟩ := Int.eq_ofNat_of_zero_le h0
  have e : ((a : Int) / 64) = ((a / 64 : Nat) : Int) := by omega
  rw [e, (xor_i64 a (a / 64) (by omega) (by omega)).1]
  omega
set_option maxRecDepth 4000 in
set_option maxHeartbeats 2000000 in
theorem pick_c {rb : Nat} {w : World} {q : Int} (n : Int) (h : Rd rb w q) (hq : q ≤ 1000000000000) (hn : n ≤ 1000000) : Calls Tryd.prog 18 #[.pointer (some ⟨rb, 0, none⟩), .int .i64 n] w (PickP rb w n q) := by
  have H := Lib.hid h
  obtain ⟨A, m, c, xs, hb, hS, hm, h2000, hq0⟩ := h
  have c1 := hb.cell 1; have c0 := hb.cell 0; have f1 := hb.frozen 1
  simp at c0 c1
  have Hb := Lib.hid hb; clear hb
  have HS := Lib.hid hS; clear hS
  have Hm := Lib.hid hm; clear hm
  by_cases h1 : n < 1
  · go_enter Tryd.func18, Tryd.ntmps18
    go_wp2
    go_ret
    exact ⟨0, rfl, Int.le_refl _, fun h => by omega, fun _ => rfl, H.out.next (Ext.refl w), ExtR.set rfl _⟩
  · have h1' : 1 ≤ n := by omega
    clear h1
    have e1 : w.frozen? ⟨rb, 1, none⟩ = false := f1
    by_cases hm0 : m = 0
    · subst hm0
      go_enter Tryd.func18, Tryd.ntmps18
      go_wp2
      go_ret
      exact ⟨0, rfl, Int.le_refl _, fun h => by omega, fun _ => rfl, H.out.next (Ext.refl w), ExtR.set rfl _⟩
    · have hmz : ((m : Int) == 0) = false := by rw [beq_eq_false_iff_ne]; omega
      have hmz2 : (m == 0) = false := by rw [beq_eq_false_iff_ne]; exact hm0
      obtain ⟨k, rfl⟩ := Int.eq_ofNat_of_zero_le hq0
      by_cases hlt : k < m
      · obtain ⟨x, hx⟩ := get_of_lt (l := xs) (k := k) (by rw [Hm.out]; exact hlt)
        obtain ⟨b, o, rfl, hx0, hx1, hbb, cx⟩ := UIn.at_ HS.out hx
        have hbne : b ≠ rb := Nat.ne_of_lt hbb
        clear hbb hx
        go_enter Tryd.func18, Tryd.ntmps18
        go_wp2
        go_ret
        exact ⟨x % n, rfl, Int.emod_nonneg _ (by omega), fun _ => Int.emod_lt_of_pos _ (by omega), fun h => by omega, H.out.next (Ext.refl w), ExtR.set rfl _⟩
      · have hm1 : 0 < m := by omega
        have hj1 := Nat.mod_lt k hm1
        have hj2 := Nat.mod_lt (k * 7 + 3) hm1
        have hd := Nat.div_le_self k m
        obtain ⟨x1, hx1⟩ := get_of_lt (l := xs) (k := k % m) (by rw [Hm.out]; exact hj1)
        obtain ⟨x2, hx2⟩ := get_of_lt (l := xs) (k := (k * 7 + 3) % m) (by rw [Hm.out]; exact hj2)
        obtain ⟨b, o, rfl, hx10, hx11, hbb, cx1⟩ := UIn.at_ HS.out hx1
        obtain ⟨b', o', hbe, hx20, hx21, -, cx2⟩ := UIn.at_ HS.out hx2
        simp only [Option.some.injEq, Addr.mk.injEq, and_true] at hbe
        obtain ⟨rfl, rfl⟩ := hbe
        have hbne : b ≠ rb := Nat.ne_of_lt hbb
        have et1 : (k : Int).tmod (m : Int) = ((k % m : Nat) : Int) := by rw [Int.tmod_eq_emod_of_nonneg (by omega)]; rfl
        have et2 : ((k : Int) * 7 + 3).tmod (m : Int) = (((k * 7 + 3) % m : Nat) : Int) := by rw [Int.tmod_eq_emod_of_nonneg (by omega)]; rfl
        have et3 : (k : Int).tdiv (m : Int) = ((k / m : Nat) : Int) := by rw [Int.tdiv_eq_ediv_of_nonneg (by omega)]; rfl
        clear hx1 hx2
        generalize k % m = j1 at *
        generalize (k * 7 + 3) % m = j2 at *
        generalize k / m = d at *
        have hk12 : k ≤ 1000000000000 := by omega
        go_enter Tryd.func18, Tryd.ntmps18
        go_wp2
        have w1 : IntKind.i64.wrap ((k : Int) * 7) = (k : Int) * 7 := IntWalk.i64_in _ (by omega)
        have w2 : IntKind.i64.wrap ((k : Int) * 7 + 3) = (k : Int) * 7 + 3 := IntWalk.i64_in _ (by omega)
        have w3 : IntKind.i64.wrap (x1 * 131) = x1 * 131 := IntWalk.i64_in _ (by omega)
        have w4 : IntKind.i64.wrap (x2 * 1117) = x2 * 1117 := IntWalk.i64_in _ (by omega)
        have w5 : IntKind.i64.wrap (x1 * 131 + x2 * 1117) = x1 * 131 + x2 * 1117 := IntWalk.i64_in _ (by omega)
        have w6 : IntKind.i64.wrap ((k : Int) * 29) = (k : Int) * 29 := IntWalk.i64_in _ (by omega)
        have w7 : IntKind.i64.wrap (x1 * 131 + x2 * 1117 + (k : Int) * 29) = x1 * 131 + x2 * 1117 + (k : Int) * 29 := IntWalk.i64_in _ (by omega)
        have w8 : IntKind.i64.wrap ((d : Int) * 53) = (d : Int) * 53 := IntWalk.i64_in _ (by omega)
        have w9 : IntKind.i64.wrap (x1 * 131 + x2 * 1117 + (k : Int) * 29 + (d : Int) * 53) = x1 * 131 + x2 * 1117 + (k : Int) * 29 + (d : Int) * 53 := IntWalk.i64_in _ (by omega)
        have i1 : (j1 : Int) < (m : Int) := by omega
        have i2 : (j2 : Int) < (m : Int) := by omega
        have w10 : IntKind.i64.wrap (j1 : Int) = (j1 : Int) := IntWalk.i64_in _ (by omega)
        have w11 : IntKind.i64.wrap (j2 : Int) = (j2 : Int) := IntWalk.i64_in _ (by omega)
        have w12 : IntKind.i64.wrap (d : Int) = (d : Int) := IntWalk.i64_in _ (by omega)
        have w13 : IntKind.i64.wrap x1 = x1 := IntWalk.i64_in _ (by omega)
        have w14 : IntKind.i64.wrap x2 = x2 := IntWalk.i64_in _ (by omega)
        refine wp_region_hold (fun W => W.cell? ⟨rb, 0, none⟩ = some (.slice (some ⟨b, o, none⟩) m c) ∧ W.cell? ⟨b, o + j1, none⟩ = some (.int .u8 x1) ∧ W.cell? ⟨b, o + j2, none⟩ = some (.int .u8 x2)) 44 [(0, true), (1, true), (2, true), (3, true), (4, true), (5, true), (6, true), (7, true), (8, true), (9, true), (10, true), (11, true), (12, true), (13, true), (14, true), (15, true), (16, true), (17, true), (18, true), (19, true), (20, true), (21, true), (22, true), (23, true), (24, true), (25, true), (26, true), (27, true), (28, true), (29, true), (30, true), (31, true), (32, true), (33, true), (34, true), (35, true), (36, true), (37, true), (38, true), (39, true), (40, true), (41, true), (42, true), (43, true)] (by kernel_rfl) (by kernel_rfl) ?_ ?_
        · have hb1 : Blk (w.setCell ⟨rb, 1, none⟩ (.int .i64 ((k : Int) + 1))).drew rb 55 #[.slice (some ⟨b, o, none⟩) m c, .int .i64 ((k : Int) + 1)] := by
            have := Hb.out.set_ 1 (.int .i64 ((k : Int) + 1))
            exact Blk.ext (by simpa using this) (Ext.refl _).drew
          have hbb1 := low_set (rb := rb) w ⟨rb, 1, none⟩ (.int .i64 ((k : Int) + 1)) (Nat.le_refl _) b hbb
          exact ⟨by simpa using hb1.cell 0, (World.cell?_of_block (w := w) (a := ⟨b, o + j1, none⟩) hbb1).trans cx1, (World.cell?_of_block (w := w) (a := ⟨b, o + j2, none⟩) hbb1).trans cx2⟩
        (repeat (first | (apply hw_read (by rfl) (by rfl); (· (intro W hW; (try dsimp only at hW); go_simp; (first | done | rfl | (rw [if_pos] <;> first | omega | rfl)))); (try simp only [Act.put, List.setIfInBounds_toArray, List.set_cons_zero, List.set_cons_succ])) | (refine hw_skip (by rfl) (by rfl) ?_; (try simp only [Act.put, List.setIfInBounds_toArray, List.set_cons_zero, List.set_cons_succ]))))
        clear w1 w2 w3 w4 w5 w6 w7 w8 w10 w11 w12 w13 w14 et1 et2 et3 cx1 cx2 i1 i2
        have hX0 : 0 ≤ x1 * 131 + x2 * 1117 + (k : Int) * 29 + (d : Int) * 53 := by omega
        have hX1 : x1 * 131 + x2 * 1117 + (k : Int) * 29 + (d : Int) * 53 ≤ 1000000000000000 := by omega
        clear w9
        have HX := Lib.hid (xor_shift_nn _ hX0 hX1)
        (refine hw_nil ?_; (try simp only [List.drop_succ_cons, List.drop_zero]))
        go_wp2
        refine NoPanic.normal ?_
        (try dsimp only [Exit.then])
        go_wp2
        go_ret
        refine ⟨_, rfl, Int.tmod_nonneg _ HX.out, fun _ => ?_, fun h => by omega, H.out.next (Ext.refl w) |>.ext (Ext.refl _).drew, (ExtR.set rfl _).trans ((Ext.refl _).drew.toR _)⟩
        rw [Int.tmod_eq_emod_of_nonneg HX.out]
        exact Int.emod_lt_of_pos _ (by omega)
end Go.Sf

/-! The reader is opened. -/
namespace Go.Sf
open Go Go.RowKit Go.Proofs
def OpenR (w : World) (e : Ending) (w' : World) : Prop := ∃ rb, e = .returned (.pointer (some ⟨rb, 0, none⟩)) ∧ w.heap.size ≤ rb ∧ rb < w'.heap.size ∧ Rd rb w' 0 ∧ Ext w w'
set_option maxHeartbeats 1000000 in
theorem l6Open_c {v : Value} {xs : List Int} (w : World) (h : Bys w v xs) : Calls Tryd.prog 10 #[v] w (OpenR w) := by
  obtain ⟨A, c, rfl, hA⟩ := h
  have hl := hA.2.2.1
  have hc := hA.1
  have hcm := hA.2.1.1
  unfold lim at hl
  unfold maxLen at hcm
  have HA := Lib.hid hA; clear hA
  have fin : Hid (∀ (n : Nat) (ys : List Int), ys.length = n → n ≤ 2000 → UIn w.heap.size w A c ys → Rd w.heap.size (w.alloc (.cells #[.slice A n c, .int .i64 0] 55)) 0) := Lib.hid fun n ys hn h2 hs =>
    ⟨A, n, c, ys, Blk.new _ _ _, hs.low (fun b hb => ((Ext.refl w).alloc _).block hb), hn, h2, Int.le_refl _⟩
  by_cases h2 : xs.length ≤ 2000
  · have h2i : ¬ (2000 : Int) < (xs.length : Int) := by omega
    have hf := fin.out _ xs rfl h2 HA.out
    have Hf := Lib.hid hf; clear hf fin
    go_enter Tryd.func10, Tryd.ntmps10
    go_wp2
    go_ret
    exact ⟨_, rfl, Nat.le_refl _, by simp, Hf.out, (Ext.refl w).alloc _⟩
  · have h2i : (2000 : Int) < (xs.length : Int) := by omega
    have h2000 : 2000 ≤ c := by omega
    have hf := fin.out 2000 (xs.take 2000) (by simp; omega) (by omega) (by
      refine ⟨by simp; omega, HA.out.2.1, by simp; unfold lim; omega, fun k x hx => HA.out.2.2.2 k x ?_⟩
      rw [List.getElem?_take] at hx; split at hx
      · exact hx
      · cases hx)
    have Hf := Lib.hid hf; clear hf fin
    go_enter Tryd.func10, Tryd.ntmps10
    go_wp2
    go_ret
    exact ⟨_, rfl, Nat.le_refl _, by simp, Hf.out, (Ext.refl w).alloc _⟩
end Go.Sf

/-! A tree is drawn. -/
namespace Go.Sf
open Go Go.RowKit Go.Proofs
/-- an item that is being made -/
def XI (rb : Nat) (wr : World) (gx : Nat) (p : ByteArray) (b : Bool) (ids : List Int) (q : Int) (u : Value) (W : World) : Prop :=
  Blk W gx 34 #[.string p, .bool b, u] ∧ OwnS wr.heap.size 3 1 EInt W u ids ∧ Rd rb W q ∧ ExtR rb wr W
theorem XI.pick {rb gx : Nat} {wr W W' : World} {p : ByteArray} {b : Bool} {ids : List Int} {q : Int} {u : Value} (h : XI rb wr gx p b ids q u W) (hR : Rd rb W' (q + 1)) (e : ExtR rb W W') (hne : gx ≠ rb) : XI rb wr gx p b ids (q + 1) u W' :=
  ⟨e.blk h.1 hne, h.2.1.keepT (h.2.2.1.keepsT e) (by decide) (fun _ _ _ h => h), hR, h.2.2.2.trans e⟩
theorem XI.ext {rb gx : Nat} {wr W W' : World} {p : ByteArray} {b : Bool} {ids : List Int} {q : Int} {u : Value} (h : XI rb wr gx p b ids q u W) (e : Ext W W') : XI rb wr gx p b ids q u W' :=
  ⟨h.1.ext e, h.2.1.ext eint_ok e, h.2.2.1.ext e, h.2.2.2.extend e⟩
theorem XI.store {rb gx : Nat} {wr W : World} {p : ByteArray} {b : Bool} {ids : List Int} {q : Int} {u u' : Value} (h1 : Blk W gx 34 #[.string p, .bool b, u]) (h2 : OwnS wr.heap.size 3 1 EInt W u' ids) (h3 : Rd rb W q) (h4 : ExtR rb wr W) (hg : wr.heap.size ≤ gx) (hrg : rb ≤ gx) :
    XI rb wr gx p b ids q u' (W.setCell ⟨gx, 2, none⟩ u') := by
  have k := KeepsT.set (i := 2) h1 u' rfl
  exact ⟨by simpa using h1.set_ 2 u', h2.keepT k (by decide) (fun _ _ _ h => h), h3.keepT k (by decide) (low_set _ _ _ hrg), h4.setNew hg _⟩
/-- what the three operations of a new item leave -/
def FT (B : Nat) (p : ByteArray) (i : Nat) (us : Nat → Value) (W : World) : Prop :=
  (i = 5 → ∃ b : Bool, us 23 = .bool b) ∧ (i = 7 → ∃ g, us 24 = .slice (some ⟨g, 0, none⟩) 0 0 ∧ B ≤ g ∧ Blk W g 3 #[]) ∧
  (i = 9 → ∃ g, us 6 = .pointer (some ⟨g, 0, none⟩) ∧ B ≤ g ∧ Blk W g 34 #[.string ⟨#[]⟩, .bool false, .slice none 0 0]) ∧
  (i = 8 → ∃ (b : Bool) (g : Nat), us 25 = .agg #[.string p, .bool b, .slice (some ⟨g, 0, none⟩) 0 0] ∧ B ≤ g ∧ Blk W g 3 #[])
theorem FT.keep {B i : Nat} {p : ByteArray} {us us' : Nat → Value} {W W' : World} (h : FT B p i us W) (hk : KeepsT 55 W W') (h23 : i = 5 → us' 23 = us 23) (h24 : i = 7 → us' 24 = us 24) (h6 : i = 9 → us' 6 = us 6) (h25 : i = 8 → us' 25 = us 25) : FT B p i us' W' :=
  ⟨fun hi => by rw [h23 hi]; exact h.1 hi, fun hi => by rw [h24 hi]; exact let ⟨g, h1, h2, h3⟩ := h.2.1 hi; ⟨g, h1, h2, hk _ _ _ (by decide) h3⟩, fun hi => by rw [h6 hi]; exact let ⟨g, h1, h2, h3⟩ := h.2.2.1 hi; ⟨g, h1, h2, hk _ _ _ (by decide) h3⟩,
   fun hi => by rw [h25 hi]; exact let ⟨b, g, h1, h2, h3⟩ := h.2.2.2 hi; ⟨b, g, h1, h2, hk _ _ _ (by decide) h3⟩⟩
end Go.Sf

/-! Two trees are drawn. -/
namespace Go.Sf
open Go Go.RowKit Go.Proofs
theorem Its.blk {B : Nat} {w : World} {A : Option Addr} {c : Nat} {l : List It} (h : SlIn B 34 3 (EIt B) w A c l) {k : Nat} {x : It} (hx : l[k]? = some x) :
    ∃ g o u, A = some ⟨g, o, none⟩ ∧ (∀ W, Ext w W → W.cell? ⟨g, o + k * 3 + 2, none⟩ = some u) ∧ (∀ W, Ext w W → W.frozen? ⟨g, o + k * 3 + 2, none⟩ = false) := by
  obtain ⟨b, o, cs, rfl, hb, hB, h0, g0, h1, ⟨u2, h2, g2⟩⟩ := h.2.2.2 k x hx
  exact ⟨b, o, u2, rfl, hB.at_ h2, fun W e => (hB.ext e).frozen _⟩
end Go.Sf

/-! DrawChangesOf; ChangesCount. -/
namespace Go.Sf
open Go Go.RowKit Go.Proofs
end Go.Sf

/-! Plain laws of the changes between two trees. -/
namespace Go.Sf
end Go.Sf
