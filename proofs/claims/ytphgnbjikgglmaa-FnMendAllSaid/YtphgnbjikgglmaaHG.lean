/- The node with a path; TreeFind. -/
import Derived.Test.YtphgnbjikgglmaaGF
import Derived.Test.YtphgnbjikgglmaaGL
import Derived.Test.YtphgnbjikgglmaaGA
import Derived.Laws.AppendOwn
set_option linter.all false
/-! The node with a path; TreeFind. -/
namespace Go.Sf
open Go Go.RowKit Go.Proofs
section
variable {B : Nat} {w : World} {l : List It} {adr : Key → Nat} {kv : Key → Value}
end
end Go.Sf

/-! The items of a tree of nodes are listed: each one's ids in a block of its own. -/
namespace Go.Sf
open Go Go.RowKit Go.Proofs
section
variable {P : Program} {α : Type} {ops : Array Oper} {rest : List Oper} {o : Oper} {a : Act} {Q : Exit → Act → World → Prop}
end
/-- the inner slices lie in blocks that came between w and w' -/
def Within {α : Type} (w w' : World) (l : List (α × Value)) : Prop := ∀ q, q ∈ l → ∀ b, q.2.ownBlock = some b → w.heap.size ≤ b ∧ b < w'.heap.size
theorem Within.mono {α : Type} {w w' w0 w1 : World} {l : List (α × Value)} (h : Within w w' l) (h0 : w0.heap.size ≤ w.heap.size) (h1 : w'.heap.size ≤ w1.heap.size) : Within w0 w1 l :=
  fun q hq b hb => let ⟨a, c⟩ := h q hq b hb; ⟨Nat.le_trans h0 a, Nat.lt_of_lt_of_le c h1⟩
theorem Within.append {α : Type} {w w' : World} {l l' : List (α × Value)} (h : Within w w' l) (h' : Within w w' l') : Within w w' (l ++ l') :=
  fun q hq => by rw [List.mem_append] at hq; exact hq.elim (h q) (h' q)
theorem Sep.append {α : Type} {w0 w w' w'' : World} {l l' : List (α × Value)} (h : Sep l) (h' : Sep l') (hw : Within w0 w l) (hw' : Within w' w'' l') (hs : w.heap.size ≤ w'.heap.size) : Sep (l ++ l') := by
  unfold Sep at *
  rw [List.pairwise_append]
  exact ⟨h, h', fun a ha b hb g hg hg' => by have := (hw a ha g hg).2; have := (hw' b hb g hg').1; omega⟩
theorem Clone_intN_c {B : Nat} {u : Value} {xs : List Int} (w : World) (h : Ints B w u xs) : Calls TryG.prog 33 #[u] w (RetP (fun v w' => Ints w.heap.size w' v xs ∧ ∀ b, v.ownBlock = some b → w.heap.size ≤ b ∧ b < w'.heap.size) w) := by
  have hlim := h.len
  obtain ⟨A, c, rfl, hA⟩ := h
  have own : ∀ (v' : Value) (w' : World), w'.ownsRow w.heap.size 3 1 v' xs.length (xs.map (Value.int .i64)) → Ints w.heap.size w' v' xs := fun v' w' ho =>
    SlOf.of_own ho (Nat.le_refl _) hlim fun k x cs hx hj => by
      have h0 := hj 0 (by omega)
      obtain ⟨b, o, cs', -, -, -, he⟩ := hA.2.2.2 k x hx
      refine ⟨?_, he.2⟩
      rw [Nat.add_zero, Nat.mul_one] at h0
      rw [Nat.mul_one, h0, List.getElem?_map, hx]; rfl
  have new : ∀ (v' : Value) (w' : World) (n : Nat) (l : List Value), w'.ownsRow w.heap.size 3 1 v' n l → ∀ b, v'.ownBlock = some b → w.heap.size ≤ b ∧ b < w'.heap.size := fun v' w' n l ho b hb => by
    rcases ho.2 with ⟨rfl, -⟩ | ⟨g, cap, cur, rfl, hg, hh, -⟩
    · cases hb
    · simp only [Value.ownBlock, Option.some.injEq] at hb
      subst hb
      exact ⟨hg, Blk.lt (cs := cur) (t := 3) hh⟩
  cases A with
  | none =>
    have hx : xs = [] := by
      cases xs with
      | nil => rfl
      | cons y ys => obtain ⟨b, o, cs, e, -⟩ := hA.2.2.2 0 y rfl; cases e
    subst hx
    refine (TryG.slices_Clone_int_nil _ _ w).mono ?_
    rintro e w' ⟨rfl, rfl⟩
    exact ⟨_, rfl, ⟨SlOf.nil _ _ _ _ _, fun b hb => by cases hb⟩, Ext.refl _⟩
  | some a =>
    by_cases hx : xs = []
    · subst hx
      refine (TryG.slices_Clone_int_zero a c w).mono ?_
      rintro e w' ⟨v', rfl, ho, -, hb⟩
      exact ⟨_, rfl, ⟨own v' w' ho, new _ _ _ _ ho⟩, hb⟩
    · have hlen : 0 < xs.length := List.length_pos_iff.2 hx
      obtain ⟨b, o, cs, e, -, hb, -⟩ := hA.2.2.2 0 xs[0] (by simp [hlen])
      simp only [Option.some.injEq] at e
      subst e
      unfold lim at hlim
      refine (TryG.slices_Clone_int b o xs.length c xs w (Nat.le_refl _) (by omega) fun j hj => ?_).mono ?_
      · obtain ⟨b2, o2, cs2, e2, -, hb2, he2⟩ := hA.2.2.2 j xs[j] (by simp [hj])
        simp only [Option.some.injEq, Addr.mk.injEq, and_true] at e2
        obtain ⟨rfl, rfl⟩ := e2
        rw [hb2.cell]
        have := he2.1
        rw [Nat.mul_one] at this
        rw [this]; simp [List.getD_eq_getElem?_getD, hj]
      · rintro e w' ⟨v', rfl, ho, -, hb'⟩
        rw [List.take_length] at ho
        exact ⟨_, rfl, ⟨own v' w' ho, new _ _ _ _ ho⟩, hb'⟩
section
variable {B : Nat} {l : List It} {adr : Key → Nat} {kv : Key → Value}
end
end Go.Sf

/-! The program's TreeValid. -/
namespace Go.Sf
open Go Go.RowKit Go.Proofs
end Go.Sf

/-! Arguments that are blocks: how large they are; copies of them. -/
namespace Go.Sf
open Go Go.RowKit Go.Proofs
def AHd (w : World) (b p : Nat) (x : Hd) : Prop :=
  w.cell? ⟨b, p, none⟩ = some (.int .i64 x.id) ∧ inI x.id ∧ (∃ u, w.cell? ⟨b, p + 1, none⟩ = some u ∧ AInts w u x.bytes) ∧ w.cell? ⟨b, p + 2, none⟩ = some (.int .i64 x.uses) ∧ inI x.uses
def AHds (w : World) (v : Value) (l : List Hd) : Prop := ASl 3 AHd w v l
theorem AHds.ext {w w' : World} {v : Value} {l : List Hd} (h : AHds w v l) (e : Ext w w') : AHds w' v l := ASl.ext h fun _ _ _ ⟨h1, h2, ⟨u, h3, h4⟩, h5, h6⟩ => ⟨e.cell h1, h2, ⟨u, e.cell h3, h4.ext e⟩, e.cell h5, h6⟩
/-- a block by value -/
def AHdV (w : World) (v : Value) (x : Hd) : Prop := ∃ u, v = .agg #[.int .i64 x.id, u, .int .i64 x.uses] ∧ inI x.id ∧ AInts w u x.bytes ∧ inI x.uses
def bkHd (x : Hd) : Nat := x.bytes.length
def bkHds (l : List Hd) : Nat := l.length + (l.map bkHd).sum
theorem dec_or' {left : Int} {n : Nat} : 0 ≤ dec left n ∨ dec left n = -1 := by unfold dec; split <;> omega
set_option maxHeartbeats 1000000 in
theorem szHeld_c {v : Value} {x : Hd} {left : Int} (w : World) (h : AHdV w v x) (h0 : 0 ≤ left) (h1 : left ≤ 1048576) : Calls TryG.prog 43 #[v, .int .i64 left] w (Ret (.int .i64 (dec left (bkHd x))) w) := by
  obtain ⟨xk, xb, xu⟩ := x
  obtain ⟨u, rfl, hk, ⟨A, c, rfl, hlc, ⟨hcm, hA⟩, hel⟩, hu⟩ := h
  simp only at hk hlc hel hu ⊢
  have hmn : xb.length ≤ maxLen := Nat.le_trans hlc hcm
  have e0 : Ext w (w.alloc (.cells #[.int .i64 xk, .slice A xb.length c, .int .i64 xu] 72)) := (Ext.refl w).alloc _
  have Cs : ∀ W, Calls TryG.prog 63 #[.slice A xb.length c, .int .i64 left] W (Ret (.int .i64 (dec left xb.length)) W) := fun W => szIntS_c W h0 h1 hmn
  have hd : Hid (0 ≤ dec left xb.length ∨ dec left xb.length = -1) := Lib.hid dec_or'
  show Calls TryG.prog 43 _ w (Ret (.int .i64 (dec left xb.length)) w)
  have hle := dec_le (n := xb.length) h0 h1
  clear hel hlc hcm hA hmn
  generalize dec left xb.length = D at *
  by_cases h5 : D < 0
  · go_enter TryG.func43, TryG.ntmps43
    go_wp2_with (go_at_call 63; refine (Cs _).mono ?_; rintro e w1 ⟨rfl, he1⟩)
    go_ret
    have hv : Value.int .i64 (-1) = .int .i64 D := by
      rcases hd.out with h | h
      · omega
      · rw [h]
    exact ⟨ret_v hv, e0.trans he1⟩
  · go_enter TryG.func43, TryG.ntmps43
    go_wp2_with (go_at_call 63; refine (Cs _).mono ?_; rintro e w1 ⟨rfl, he1⟩)
    go_ret
    exact ⟨rfl, e0.trans he1⟩
theorem bkh_take {l : List Hd} {k : Nat} {x : Hd} (h : l[k]? = some x) : ((l.take (k + 1)).map bkHd).sum = ((l.take k).map bkHd).sum + bkHd x := by
  rw [List.take_add_one, h]; simp
theorem bkh_take_le (l : List Hd) (k : Nat) : ((l.take k).map bkHd).sum ≤ (l.map bkHd).sum := by
  conv => rhs; rw [← List.take_append_drop k l]
  rw [List.map_append, List.sum_append]; omega
set_option maxRecDepth 4000 in
set_option maxHeartbeats 1000000 in
theorem szHeldS_c {v : Value} {l : List Hd} {left : Int} (w : World) (h : AHds w v l) (h0 : 0 ≤ left) (h1 : left ≤ 1048576) : Calls TryG.prog 16 #[v, .int .i64 left] w (Ret (.int .i64 (dec left (bkHds l))) w) := by
  obtain ⟨A, c, rfl, hlc, ⟨hcm, hA⟩, hel⟩ := h
  have hmn : l.length ≤ maxLen := Nat.le_trans hlc hcm
  unfold maxLen at hmn
  have hex : ∃ n, l.length = n := ⟨_, rfl⟩
  obtain ⟨n, hn⟩ := hex
  rw [hn] at hmn ⊢
  have Hn := Lib.hid hn
  have HE := Lib.hid hel
  clear hel hlc hcm hA hn
  by_cases h2 : left < n
  · have h3 : left - (n : Int) < 0 := by omega
    go_enter TryG.func16, TryG.ntmps16
    go_wp2
    go_ret
    exact ⟨ret_v (by rw [bkHds, Hn.out, dec_more h2]; rfl), Ext.refl w⟩
  · have h3 : ¬ left - (n : Int) < 0 := by omega
    go_enter TryG.func16, TryG.ntmps16
    go_wp2
    go_loopw [1, 5] (fun d i wr => ∃ (k : Nat) (D : Int), k ≤ n ∧ i = .int .i64 k ∧ d = .int .i64 D ∧ Ext w wr ∧ 0 ≤ D ∧ D ≤ 1048576 ∧ Hid (D = left - n - ((l.take k).map bkHd).sum)) (fun _ i _ => n - (RowKit.intOf i).toNat)
    case atStart => exact ⟨0, left - n, by omega, rfl, rfl, Ext.refl w, by omega, by omega, Lib.hid (by simp)⟩
    case round =>
      obtain ⟨k, D, hk, rfl, rfl, he, hD0, hD1, hD⟩ := hrel
      by_cases hlt : k < n
      · obtain ⟨x, hx⟩ := get_of_lt (l := l) (k := k) (by rw [Hn.out]; exact hlt)
        obtain ⟨b, o, rfl, hc0, hki, ⟨u, hc1, hu⟩, hc2, hku⟩ := HE.out k x hx
        obtain ⟨Au, cu, rfl, hU⟩ := hu
        have a0 := fun W (e : Ext wr W) => (he.trans e).cell hc0
        have a1 := fun W (e : Ext wr W) => (he.trans e).cell hc1
        have a2 := fun W (e : Ext wr W) => (he.trans e).cell hc2
        have hs := szHeld_c (x := x) (left := D) wr ⟨_, rfl, hki, AInts.ext ⟨_, _, rfl, hU⟩ he, hku⟩ hD0 hD1
        have Hs := Lib.hid hs
        have Hx := Lib.hid (bkh_take hx)
        have Hb := Lib.hid (bkh_take_le l (k + 1))
        have hle := dec_le (n := bkHd x) hD0 hD1
        have hd : Hid ((D < bkHd x ∧ dec D (bkHd x) = -1) ∨ (¬ D < bkHd x ∧ dec D (bkHd x) = D - bkHd x ∧ 0 ≤ D - bkHd x)) := Lib.hid (by
          by_cases h : D < bkHd x
          · exact .inl ⟨h, dec_neg h⟩
          · exact .inr ⟨h, dec_pos h, by omega⟩)
        have aa0 := a0 wr (Ext.refl _); have aa1 := a1 wr (Ext.refl _); have aa2 := a2 wr (Ext.refl _)
        clear hc0 hc1 hc2 hU hx hs a0 a1 a2
        generalize hM : bkHd x = M at *
        have HM := Lib.hid hM; clear hM
        generalize hR : dec D M = R at *
        have HR := Lib.hid hR; clear hR
        by_cases h5 : R < 0
        · go_wp2_with (go_at_call 43; refine Hs.out.mono ?_; rintro e w1 ⟨rfl, he1⟩)
          go_ret
          have hv : Value.int .i64 (-1) = .int .i64 (dec left (bkHds l)) := by
            rcases hd.out with ⟨ha, hb⟩ | ⟨ha, hb, hc⟩
            · rw [bkHds, dec_neg (by have := hD.out; have := Hx.out; have := Hb.out; have := Hn.out; omega)]
            · omega
          exact ⟨ret_v hv, he.trans he1⟩
        · go_wp2_with (go_at_call 43; refine Hs.out.mono ?_; rintro e w1 ⟨rfl, he1⟩)
          go_roundw
          case rel =>
            refine ⟨k + 1, R, by omega, by go_num, rfl, he.trans he1, by omega, hle, Lib.hid ?_⟩
            rcases hd.out with ⟨ha, hb⟩ | ⟨ha, hb, hc⟩
            · omega
            · rw [Hx.out, hb]; have := hD.out; omega
          case measure => simp [RowKit.intOf]; omega
      · have hks : k = n := by omega
        subst hks
        have e : l.take k = l := List.take_of_length_le (by rw [Hn.out]; omega)
        rw [e] at hD
        go_wp2
        go_ret
        have hv : Value.int .i64 D = .int .i64 (dec left (bkHds l)) := by
          rw [bkHds, Hn.out, dec_pos (by have := hD.out; omega)]; have := hD.out; congr 1; omega
        exact ⟨ret_v hv, he⟩
set_option maxRecDepth 4000 in
set_option maxHeartbeats 1000000 in
theorem toHeld_c {v : Value} {x : Hd} (w : World) (h : AHdV w v x) (hl : x.bytes.length ≤ lim) :
    Calls TryG.prog 44 #[v] w (RetP (fun r w' => ∃ u, r = .agg #[.int .i64 x.id, u, .int .i64 x.uses] ∧ Ints w.heap.size w' u x.bytes ∧ NewIn w w' u) w) := by
  obtain ⟨xk, xb, xu⟩ := x
  obtain ⟨u, rfl, hki, hu, hku⟩ := h
  simp only at hu hl hki hku ⊢
  have HU := Lib.hid hu
  obtain ⟨Au, cu, rfl, -⟩ := hu
  have hb1 := Lib.hid (Blk.new w 72 #[.int .i64 xk, .slice Au xb.length cu, .int .i64 xu])
  go_enter TryG.func44, TryG.ntmps44
  go_wp2_with fail
  refine (toIntS_c _ (HU.out.ext (by (repeat' (first | exact Ext.refl _ | assumption | refine Ext.alloc ?_ _ | refine Ext.drew ?_ | refine Ext.drewN ?_ _)))) hl).mono ?_
  rintro e w4 ⟨r, rfl, ⟨rfl, hI, hN⟩, he⟩
  obtain ⟨g, hg1, hg2, hg3⟩ := hN
  simp only [World.size_alloc] at hI hg1 hg2 ⊢
  have hb2 := ((Blk.new (w.alloc (.cells #[.int .i64 xk, .slice Au xb.length cu, .int .i64 xu] 72)) 35 #[.int .i64 0, .slice none 0 0, .int .i64 0]).alloc (.cells #[.int .i64 xk, .slice none 0 0, .int .i64 0] 35)).ext he
  have hb3 := (Blk.new ((w.alloc (.cells #[.int .i64 xk, .slice Au xb.length cu, .int .i64 xu] 72)).alloc (.cells #[.int .i64 0, .slice none 0 0, .int .i64 0] 35)) 35 #[.int .i64 xk, .slice none 0 0, .int .i64 0]).ext he
  have hb4 := ((hb1.out.alloc (.cells #[.int .i64 0, .slice none 0 0, .int .i64 0] 35)).alloc (.cells #[.int .i64 xk, .slice none 0 0, .int .i64 0] 35)).ext he
  simp only [World.size_alloc] at hb2 hb3
  have he4 : Ext w w4 := Ext.trans (by (repeat' (first | exact Ext.refl _ | assumption | refine Ext.alloc ?_ _ | refine Ext.drew ?_ | refine Ext.drewN ?_ _))) he
  have c0 := hb3.cell 0; have c1 := hb3.cell 1; have c2 := hb3.cell 2
  have d0 := hb2.cell 0; have d1 := hb2.cell 1; have d2 := hb2.cell 2
  have k2 := hb4.cell 2
  have f1 := hb3.frozen 1; have f2 := hb3.frozen 2
  have g0 := hb2.frozen 0; have g1 := hb2.frozen 1; have g2 := hb2.frozen 2
  simp at c0 c1 c2 d0 d1 d2 k2
  have HI := Lib.hid hI
  have Hg : Hid (∃ g, (Value.slice (some ⟨w.heap.size + 1 + 1 + 1, 0, none⟩) xb.length xb.length).ownBlock = some g ∧ w.heap.size ≤ g ∧ g < w4.heap.size) := Lib.hid ⟨g, hg1, by omega, hg3⟩
  have hgg : ∃ gg, w.heap.size + 1 + 1 + 1 = gg := ⟨_, rfl⟩
  obtain ⟨gg, hgg⟩ := hgg
  rw [hgg] at HI Hg ⊢
  have hge : w.heap.size ≤ gg := by omega
  have B31 := hb3.set_ 1 (.slice (some ⟨gg, 0, none⟩) xb.length xb.length)
  have B21 := (hb2.far (p := ⟨w.heap.size + 1 + 1, 1, none⟩) (by simp) (.slice (some ⟨gg, 0, none⟩) xb.length xb.length)).far (p := ⟨w.heap.size + 1 + 1, 2, none⟩) (by simp) (.int .i64 xu)
  have B22 := B21.set_ 0 (.int .i64 xk)
  have B23 := B22.set_ 1 (.slice (some ⟨gg, 0, none⟩) xb.length xb.length)
  have B24 := B23.set_ 2 (.int .i64 xu)
  have K : KeepsT 35 w4 _ := (KeepsT.set (i := 1) hb3 (.slice (some ⟨gg, 0, none⟩) xb.length xb.length) rfl).trans ((KeepsT.set (i := 2) B31 (.int .i64 xu) rfl).trans ((KeepsT.set (i := 0) B21 (.int .i64 xk) rfl).trans ((KeepsT.set (i := 1) B22 (.slice (some ⟨gg, 0, none⟩) xb.length xb.length) rfl).trans (KeepsT.set (i := 2) B23 (.int .i64 xu) rfl))))
  have E3 := ((((he4.setCell (p := ⟨w.heap.size + 1 + 1, 1, none⟩) (by simp; omega) (.slice (some ⟨gg, 0, none⟩) xb.length xb.length)).setCell (p := ⟨w.heap.size + 1 + 1, 2, none⟩) (by simp; omega) (.int .i64 xu)).setCell (p := ⟨w.heap.size + 1, 0, none⟩) (by simp) (.int .i64 xk)).setCell (p := ⟨w.heap.size + 1, 1, none⟩) (by simp) (.slice (some ⟨gg, 0, none⟩) xb.length xb.length)).setCell (p := ⟨w.heap.size + 1, 2, none⟩) (by simp) (.int .i64 xu)
  have HB := Lib.hid B24; have HK := Lib.hid K; have HE := Lib.hid E3
  clear hI hb2 hb3 hb4 hb1 he hg1 hg2 hg3 B31 B21 B22 B23 B24 K E3 he4 hgg
  go_wp2
  have HB := HB.out; have HK := HK.out; have HE := HE.out
  simp at HB
  have z0 := HB.cell 0; have z1 := HB.cell 1; have z2 := HB.cell 2
  simp at z0 z1 z2
  have HI' := HI.out.keepT HK (by decide)
  have hs : (((((w4.setCell ⟨w.heap.size + 1 + 1, 1, none⟩ (.slice (some ⟨gg, 0, none⟩) xb.length xb.length)).setCell ⟨w.heap.size + 1 + 1, 2, none⟩ (.int .i64 xu)).setCell ⟨w.heap.size + 1, 0, none⟩ (.int .i64 xk)).setCell ⟨w.heap.size + 1, 1, none⟩ (.slice (some ⟨gg, 0, none⟩) xb.length xb.length)).setCell ⟨w.heap.size + 1, 2, none⟩ (.int .i64 xu)).heap.size = w4.heap.size := by simp
  generalize ((((w4.setCell ⟨w.heap.size + 1 + 1, 1, none⟩ (.slice (some ⟨gg, 0, none⟩) xb.length xb.length)).setCell ⟨w.heap.size + 1 + 1, 2, none⟩ (.int .i64 xu)).setCell ⟨w.heap.size + 1, 0, none⟩ (.int .i64 xk)).setCell ⟨w.heap.size + 1, 1, none⟩ (.slice (some ⟨gg, 0, none⟩) xb.length xb.length)).setCell ⟨w.heap.size + 1, 2, none⟩ (.int .i64 xu) = w7 at *
  exact bodyPost_ret (v := .agg #[.int .i64 xk, (.slice (some ⟨gg, 0, none⟩) xb.length xb.length), .int .i64 xu]) (by simp [results, TryG.results44, go_sem, z0, z1, z2]) rfl ⟨_, rfl, ⟨_, rfl, HI'.keep (by omega) (fun _ _ _ => rfl), by obtain ⟨g, h1, h2, h3⟩ := Hg.out; exact ⟨g, h1, h2, by rw [hs]; exact h3⟩⟩, HE⟩
/-- a row of blocks of the call's own at g: the first k are there -/
def RowHdU (w : World) (g n : Nat) (l : List Hd) (k : Nat) : Prop := ∃ (lu : List (Hd × Value)) (cs : Array Value), lu.length = k ∧ lu.map Prod.fst = l.take k ∧ Blk w g 35 cs ∧ cs.size = n * 3 ∧
  (∀ i q, lu[i]? = some q → EHdU g w cs (i * 3) q) ∧ Sep lu ∧ ∀ q, q ∈ lu → ∃ b, q.2.ownBlock = some b ∧ b < w.heap.size
theorem RowHdU.put {w W : World} {g n k : Nat} {l : List Hd} {x : Hd} {u : Value} (h : RowHdU w g n l k) (e : Ext w W) (hx : l[k]? = some x) (hk : k < n) (hki : inI x.id) (hku : inI x.uses) (hu : Ints w.heap.size W u x.bytes) (hN : NewIn w W u) :
    RowHdU (((W.setCell ⟨g, k * 3, none⟩ (.int .i64 x.id)).setCell ⟨g, k * 3 + 1, none⟩ u).setCell ⟨g, k * 3 + 2, none⟩ (.int .i64 x.uses)) g n l (k + 1) := by
  obtain ⟨lu, cs, h1, h2, h3, h4, h5, h6, h7⟩ := h
  have hg := h3.lt
  have B0 := h3.ext e
  have B1 := B0.set_ (k * 3) (.int .i64 x.id)
  have B2 := B1.set_ (k * 3 + 1) u
  have B3 := B2.set_ (k * 3 + 2) (.int .i64 x.uses)
  have K := (KeepsT.set (i := k * 3) B0 (.int .i64 x.id) rfl).trans ((KeepsT.set (i := k * 3 + 1) B1 u rfl).trans (KeepsT.set (i := k * 3 + 2) B2 (.int .i64 x.uses) rfl))
  refine ⟨lu ++ [(x, u)], _, by simp [h1], by rw [List.map_append, h2, List.take_add_one, hx]; rfl, B3, by simpa using h4, ?_, ?_, ?_⟩
  · intro i q hq
    have cell : ∀ j, (((cs.setIfInBounds (k * 3) (.int .i64 x.id)).setIfInBounds (k * 3 + 1) u).setIfInBounds (k * 3 + 2) (.int .i64 x.uses))[j]? = if j = k * 3 + 2 then some (.int .i64 x.uses) else if j = k * 3 + 1 then some u else if j = k * 3 then some (.int .i64 x.id) else cs[j]? := fun j => by
      simp only [Array.getElem?_setIfInBounds, Array.size_setIfInBounds]
      by_cases q2 : j = k * 3 + 2
      · subst q2; rw [if_pos rfl, if_pos (by omega), if_pos rfl]
      · rw [if_neg (fun h => q2 h.symm), if_neg q2]
        by_cases q1 : j = k * 3 + 1
        · subst q1; rw [if_pos rfl, if_pos (by omega), if_pos rfl]
        · rw [if_neg (fun h => q1 h.symm), if_neg q1]
          by_cases q0 : j = k * 3
          · subst q0; rw [if_pos rfl, if_pos (by omega), if_pos rfl]
          · rw [if_neg (fun h => q0 h.symm), if_neg q0]
    rcases Nat.lt_or_ge i k with hik | hik
    · rw [List.getElem?_append_left (by omega)] at hq
      refine (((h5 i q hq).keep (Nat.le_refl _) (e.keeps _)).keepT K (by decide)).loc fun j hj => ?_
      rw [cell, if_neg (by omega), if_neg (by omega), if_neg (by omega)]
    · rw [List.getElem?_append_right (by omega), h1] at hq
      have hik' : i = k := by
        have := lt_of_get hq
        simp at this; omega
      subst hik'
      simp at hq
      subst hq
      refine ⟨?_, hki, ?_, ?_, hku, (hu.keep (Nat.le_of_lt hg) (fun _ _ _ => rfl)).keepT K (by decide)⟩
      · rw [cell, if_neg (by omega), if_neg (by omega), if_pos rfl]
      · rw [cell, if_neg (by omega), if_pos rfl]
      · rw [cell, if_pos rfl]
  · obtain ⟨b, hb1, hb2, hb3⟩ := hN
    refine h6.snoc fun p hp g' hg' hq => ?_
    obtain ⟨b', hb', hlt⟩ := h7 p hp
    rw [hb'] at hg'
    simp only at hq
    rw [hb1] at hq
    have := Option.some.inj hg'; have := Option.some.inj hq
    omega
  · intro q hq
    have hsz : (((W.setCell ⟨g, k * 3, none⟩ (.int .i64 x.id)).setCell ⟨g, k * 3 + 1, none⟩ u).setCell ⟨g, k * 3 + 2, none⟩ (.int .i64 x.uses)).heap.size = W.heap.size := by simp
    rw [hsz]
    rw [List.mem_append, List.mem_singleton] at hq
    rcases hq with hq | rfl
    · obtain ⟨b, hb, hlt⟩ := h7 q hq
      exact ⟨b, hb, Nat.lt_of_lt_of_le hlt e.size⟩
    · obtain ⟨b, hb1, hb2, hb3⟩ := hN
      exact ⟨b, hb1, hb3⟩
set_option maxRecDepth 4000 in
set_option maxHeartbeats 1000000 in
theorem toHeldS_c {v : Value} {l : List Hd} (w : World) (h : AHds w v l) (hb : bkHds l ≤ 1048576) :
    Calls TryG.prog 18 #[v] w (RetP (fun u w' => ∃ lu, lu.map Prod.fst = l ∧ HdsU w.heap.size w' u lu ∧ Sep lu) w) := by
  obtain ⟨A, c, rfl, hlc, ⟨hcm, hA⟩, hel⟩ := h
  have hl : l.length ≤ 1048576 := by unfold bkHds at hb; omega
  have hbd : Hid (∀ (k : Nat) (x : Hd), l[k]? = some x → x.bytes.length ≤ lim) := Lib.hid fun k x hx => by
    have h1 := bkh_take_le l (k + 1)
    rw [bkh_take hx] at h1
    have hbk : bkHd x = x.bytes.length := rfl
    unfold bkHds at hb; unfold lim; omega
  have hlim : Hid (l.length ≤ lim) := Lib.hid (by unfold lim; omega)
  obtain ⟨cs0, hcs, hmk⟩ := run_mk el_Hd l.length hlim.out
  have hex : ∃ n, l.length = n := ⟨_, rfl⟩
  obtain ⟨n, hn⟩ := hex
  rw [hn] at hl hmk hcs ⊢
  have Hn := Lib.hid hn
  have HE := Lib.hid hel
  have Hcs := Lib.hid hcs
  clear hel hlc hcm hA hn hcs hb
  go_enter TryG.func18, TryG.ntmps18
  go_wp2
  clear hmk
  go_loopw [4] (fun i wr => ∃ k : Nat, k ≤ n ∧ i = .int .i64 k ∧ Ext w wr ∧ Hid (RowHdU wr w.heap.size n l k)) (fun i _ => n - (RowKit.intOf i).toNat)
  case atStart => exact ⟨0, by omega, rfl, (Ext.refl w).alloc _, Lib.hid ⟨[], cs0, rfl, rfl, Blk.new _ _ _, Hcs.out, fun i x hi => by simp at hi, List.Pairwise.nil, fun q hq => by simp at hq⟩⟩
  case round =>
    obtain ⟨k, hk, rfl, he, hR⟩ := hrel
    by_cases hlt : k < n
    · obtain ⟨x, hx⟩ := get_of_lt (l := l) (k := k) (by rw [Hn.out]; exact hlt)
      obtain ⟨b, o, rfl, hc0, hki, ⟨u, hc1, hu⟩, hc2, hku⟩ := HE.out k x hx
      have hp2 := hbd.out k x hx
      obtain ⟨Au, cu, rfl, hU⟩ := hu
      have Hs := Lib.hid (toHeld_c (x := x) wr ⟨_, rfl, hki, AInts.ext ⟨_, _, rfl, hU⟩ he, hku⟩ hp2)
      have a0 := he.cell hc0; have a1 := he.cell hc1; have a2 := he.cell hc2
      have Hx := Lib.hid hx; have Hki := Lib.hid hki; have Hku := Lib.hid hku
      clear hc0 hc1 hc2 hU hx hp2
      go_wp2_with fail
      refine Hs.out.mono ?_
      rintro e w1 ⟨r, rfl, ⟨u, rfl, hu, hN⟩, he1⟩
      have ff := fun i => show w1.frozen? ⟨w.heap.size, i, none⟩ = false from by obtain ⟨lu, cs, -, -, h1, -⟩ := hR.out; exact (h1.ext he1).frozen i
      have dd : ∀ i, i < n * 3 → ∃ u, w1.cell? ⟨w.heap.size, i, none⟩ = some u := fun i hi => by
        obtain ⟨lu, cs, -, -, h1, h2, -⟩ := hR.out
        rw [(h1.ext he1).cell]; exact ⟨cs[i], by simp [h2, hi]⟩
      obtain ⟨z0, d0⟩ := dd (k * 3) (by omega); obtain ⟨z1, d1⟩ := dd (k * 3 + 1) (by omega); obtain ⟨z2, d2⟩ := dd (k * 3 + 2) (by omega)
      have f0 := ff (k * 3); have f1 := ff (k * 3 + 1); have f2 := ff (k * 3 + 2)
      have Hu := Lib.hid hu; have HN := Lib.hid hN
      obtain ⟨A2, c2, rfl, -⟩ := hu
      clear ff dd hN a0 a1 a2
      go_wp2
      go_roundw
      case rel => exact ⟨k + 1, by omega, by go_num, (((he.trans he1).setCell (Nat.le_refl _) _).setCell (Nat.le_refl _) _).setCell (Nat.le_refl _) _, Lib.hid (hR.out.put he1 Hx.out hlt Hki.out Hku.out Hu.out HN.out)⟩
      case measure => simp [RowKit.intOf]; omega
    · have hks : k = n := by omega
      subst hks
      go_wp2
      go_ret
      obtain ⟨lu, cs, h1, h2, h3, h4, h5, h6, h7⟩ := hR.out
      refine ⟨.slice (some ⟨w.heap.size, 0, none⟩) k k, rfl, ⟨lu, by rw [h2]; exact List.take_of_length_le (by rw [Hn.out]; omega), ⟨some ⟨w.heap.size, 0, none⟩, k, by rw [h1], by rw [h1]; exact Nat.le_refl _, ⟨by unfold maxLen; omega, fun h => by cases h⟩, by rw [h1]; unfold lim; omega, fun i x hx => ?_⟩, h6⟩, he⟩
      refine ⟨w.heap.size, 0, cs, rfl, Nat.le_refl _, h3, ?_⟩
      rw [Nat.zero_add]
      exact h5 i x hx
end Go.Sf
