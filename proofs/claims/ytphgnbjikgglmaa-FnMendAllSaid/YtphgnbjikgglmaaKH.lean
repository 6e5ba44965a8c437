/- The phase, part 29: a block's sum, alone, in the ghost's program; its bytes read cell by cell -/
import Derived.Test.YtphgnbjikgglmaaKG
import Derived.Test.YtphgnbjikgglmaaGP
set_option linter.all false
/-! The phase, part 29: a block's sum, alone, in the ghost's program; its bytes read cell by cell -/
namespace Go.Sf
open Go Go.Conc Go.RowKit Go.Proofs
/-- the ints of a slice, cell by cell -/
def CInts (base : Option Addr) (l : List Int) (w : World) : Prop := ∀ k x, l[k]? = some x → ∃ b off, base = some ⟨b, off, none⟩ ∧ w.cell? ⟨b, off + k, none⟩ = some (.int .i64 x)
theorem CInts.ext {base : Option Addr} {l : List Int} {w w' : World} (h : CInts base l w) (e : Ext w w') : CInts base l w' := fun k x hx => let ⟨b, o, h1, h2⟩ := h k x hx; ⟨b, o, h1, e.cell h2⟩
theorem bytesOk_eq (l : List Int) : bytesOk l = l.all byteOk := rfl
theorem blkOk_eq (l : List Int) : blkOk l = blockOk l := by
  rw [Bool.eq_iff_iff]
  unfold blkOk blockOk
  rw [bytesOk_eq]
  simp only [Bool.and_eq_true, decide_eq_true_eq, inB_iff]
  constructor
  · rintro ⟨⟨h1, h2⟩, h3⟩
    exact ⟨h3, by omega, by omega⟩
  · rintro ⟨h3, h1, h2⟩
    exact ⟨⟨by omega, by omega⟩, h3⟩
set_option maxHeartbeats 1000000 in
theorem cBytesValid_c {base : Option Addr} {cap : Nat} {l : List Int} (w : World) (hl : l.length ≤ 8) (h : CInts base l w) : Calls TryG.prog 62 #[.slice base l.length cap] w (fun e w1 => e = .returned (.bool (l.all byteOk)) ∧ w1 = w) := by
  generalize hn : l.length = n at *
  have Hn := Lib.hid hn; clear hn
  have H := Lib.hid h; clear h
  go_enter TryG.func62, TryG.ntmps62
  go_wp2
  go_loop [7] (fun i => ∃ k : Nat, k ≤ n ∧ i = .int .i64 k ∧ Hid ((l.take k).all byteOk = true)) (fun i => n - (RowKit.intOf i).toNat)
  case atStart => exact ⟨0, by omega, rfl, Lib.hid rfl⟩
  case round =>
    obtain ⟨k, hk, rfl, hall⟩ := hrel
    by_cases hlt : k < n
    · obtain ⟨x, hx⟩ := get_of_lt (l := l) (k := k) (by rw [Hn.out]; exact hlt)
      obtain ⟨b, o, rfl, hc⟩ := H.out k x hx
      have a0 := hc
      have Hx := Lib.hid hx
      clear hc hx
      by_cases h0 : x < 0
      · have Hr : Hid (l.all byteOk = false) := Lib.hid (all_bad Hx.out (by rw [byteOk, Bool.eq_false_iff]; intro h; rw [inB_iff] at h; omega))
        clear hall
        go_wp2
        go_ret
        exact ⟨ret_b Hr.out.symm, rfl⟩
      by_cases h1 : 255 < x
      · have Hr : Hid (l.all byteOk = false) := Lib.hid (all_bad Hx.out (by rw [byteOk, Bool.eq_false_iff]; intro h; rw [inB_iff] at h; omega))
        clear hall
        go_wp2
        go_ret
        exact ⟨ret_b Hr.out.symm, rfl⟩
      have Hr := Lib.hid (all_take hall.out Hx.out (by rw [byteOk, inB_iff]; omega))
      clear hall
      go_wp2
      go_round
      case rel => exact ⟨k + 1, by omega, by go_num, Hr⟩
      case measure => simp [RowKit.intOf]; omega
    · have hks : k = n := by omega
      subst hks
      have Hr := Lib.hid (all_end hall.out Hn.out)
      clear hall
      go_wp2
      go_ret
      exact ⟨ret_b Hr.out.symm, rfl⟩
set_option maxHeartbeats 1000000 in
theorem cBlockValid_c {base : Option Addr} {cap : Nat} {bs : List Int} (w : World) (h : CInts base bs w) : Calls TryG.prog 41 #[.slice base bs.length cap] w (fun e w1 => e = .returned (.bool (blockOk bs)) ∧ w1 = w) := by
  have Cb := fun (h8 : bs.length ≤ 8) => cBytesValid_c (cap := cap) w h8 h
  generalize hn : bs.length = n at *
  have Hn := Lib.hid hn; clear hn
  have H := Lib.hid h; clear h
  by_cases h1 : 1 ≤ n
  · have h1' : (1 : Int) ≤ n := by omega
    by_cases h8 : n ≤ 8
    · have h8' : (n : Int) ≤ 8 := by omega
      have Hr : Hid (bs.all byteOk = blockOk bs) := Lib.hid (by unfold blockOk; rw [Hn.out, inB_iff.2 ⟨h1', h8'⟩, Bool.and_true])
      have Cb' := Cb h8
      clear Cb
      go_enter TryG.func41, TryG.ntmps41
      go_wp2_with (go_at_call 62; refine Cb'.mono ?_; rintro e w2 ⟨rfl, rfl⟩)
      go_ret
      exact ⟨ret_b Hr.out, rfl⟩
    · have h8' : ¬ (n : Int) ≤ 8 := by omega
      have Hr : Hid (blockOk bs = false) := Lib.hid (by rw [Bool.eq_false_iff]; intro hb; have := block_len hb; have := Hn.out; omega)
      clear Cb
      go_enter TryG.func41, TryG.ntmps41
      go_wp2
      go_ret
      exact ⟨ret_b Hr.out.symm, rfl⟩
  · have h1' : ¬ (1 : Int) ≤ n := by omega
    have Hr : Hid (blockOk bs = false) := Lib.hid (by rw [Bool.eq_false_iff]; intro hb; have := block_len hb; have := Hn.out; omega)
    clear Cb
    go_enter TryG.func41, TryG.ntmps41
    go_wp2
    go_ret
    exact ⟨ret_b Hr.out.symm, rfl⟩
theorem blkSum_range (l : List Int) : (∀ x, x ∈ l → 0 ≤ x ∧ x ≤ 255) → 0 ≤ l.foldl sumStep 7 ∧ l.foldl sumStep 7 < 9973 := by
  have key : ∀ (l : List Int) (s : Int), 0 ≤ s → s < 9973 → 0 ≤ l.foldl sumStep s ∧ l.foldl sumStep s < 9973 := by
    intro l
    induction l with
    | nil => exact fun s h1 h2 => ⟨h1, h2⟩
    | cons x l ih => exact fun s h1 h2 => ih _ (by unfold sumStep; omega) (by unfold sumStep; omega)
  exact fun _ => key l 7 (by omega) (by omega)
set_option maxHeartbeats 1000000 in
theorem cBlockSum_c {base : Option Addr} {cap : Nat} {bs : List Int} (w : World) (h : CInts base bs w) : Calls TryG.prog 54 #[.slice base bs.length cap] w (fun e w1 => e = .returned (.int .i64 (blkSum bs)) ∧ w1 = w) := by
  have Cb := cBlockValid_c (cap := cap) w h
  have Hlen : Hid (blockOk bs = true → bs.length ≤ 8 ∧ ∀ (k : Nat) (x : Int), bs[k]? = some x → 0 ≤ x ∧ x ≤ 255) := Lib.hid fun hb => by
    rw [← blkOk_eq] at hb
    unfold blkOk at hb
    simp at hb
    refine ⟨by omega, fun k x hx => ?_⟩
    have := hb.2
    unfold bytesOk at this
    rw [List.all_eq_true] at this
    simpa using this x (List.mem_of_getElem? hx)
  generalize hn : bs.length = n at *
  have Hn := Lib.hid hn; clear hn
  have H := Lib.hid h; clear h
  cases hb : blockOk bs with
  | false =>
    rw [hb] at Cb
    have Hr : Hid (blkSum bs = -1) := Lib.hid (by unfold blkSum; rw [blkOk_eq, hb]; rfl)
    clear hb
    go_enter TryG.func54, TryG.ntmps54
    go_wp2_with (go_at_call 41; refine Cb.mono ?_; rintro e w2 ⟨rfl, rfl⟩)
    go_ret
    exact ⟨by rw [Hr.out]; rfl, rfl⟩
  | true =>
    rw [hb] at Cb
    obtain ⟨h8, hx8⟩ := Hlen.out hb
    have Hx8 := Lib.hid hx8; clear hx8
    have Hr : Hid (blkSum bs = bs.foldl sumStep 7) := Lib.hid (by unfold blkSum; rw [blkOk_eq, hb]; rfl)
    clear hb Hlen
    go_enter TryG.func54, TryG.ntmps54
    go_wp2_with (go_at_call 41; refine Cb.mono ?_; rintro e w2 ⟨rfl, rfl⟩)
    go_loop [3, 11] (fun q i => ∃ (k : Nat) (s : Int), k ≤ n ∧ i = .int .i64 k ∧ q = .int .i64 s ∧ 0 ≤ s ∧ s < 9973 ∧ Hid (s = (bs.take k).foldl sumStep 7)) (fun _ i => n - (RowKit.intOf i).toNat)
    case atStart => exact ⟨0, 7, by omega, rfl, rfl, by omega, by omega, Lib.hid rfl⟩
    case round =>
      obtain ⟨k, s, hk, rfl, rfl, hs0, hs1, hsum⟩ := hrel
      by_cases hlt : k < n
      · obtain ⟨x, hx⟩ := get_of_lt (l := bs) (k := k) (by rw [Hn.out]; exact hlt)
        obtain ⟨b, o, rfl, hc⟩ := H.out k x hx
        have a0 := hc
        obtain ⟨y0, y1⟩ := Hx8.out k x hx
        have Hs : Hid (sumStep s x = (bs.take (k + 1)).foldl sumStep 7) := Lib.hid (by rw [List.take_add_one, hx, Option.toList_some, List.foldl_append, ← hsum.out]; rfl)
        have e1 : IntKind.i64.wrap (263 * s) = 263 * s := by rw [IntKind.wrap_i64]; omega
        have e2 : IntKind.i64.wrap (263 * s + x) = 263 * s + x := by rw [IntKind.wrap_i64]; omega
        have e3 : (263 * s + x).tmod 9973 = sumStep s x := by rw [Int.tmod_eq_emod_of_nonneg (by omega)]; rfl
        have hr : 0 ≤ sumStep s x ∧ sumStep s x < 9973 := by unfold sumStep; omega
        clear hc hx hsum
        go_wp2
        go_round
        case rel => exact ⟨k + 1, sumStep s x, by omega, by go_num, by simp only [e1, e2, e3], hr.1, hr.2, Hs⟩
        case measure => simp [RowKit.intOf]; omega
      · have hks : k = n := by omega
        subst hks
        have Hs : Hid (s = bs.foldl sumStep 7) := Lib.hid (by rw [hsum.out, List.take_of_length_le (by rw [Hn.out]; omega)])
        clear hsum
        go_wp2
        go_ret
        exact ⟨by rw [Hr.out, ← Hs.out]; rfl, rfl⟩
end Go.Sf

/-! The phase, part 30: what the ghost does alone in the place of badOf -/
namespace Go.Sf
open Go Go.Conc Go.RowKit Go.Proofs
theorem sch2 (o0 o1 : Oper) (h0 : o0.after = #[]) (h1 : o1.after = #[]) (t : Nat) : Region.schedule true #[o0, o1] t = if t % 2 = 0 then [0, 1] else [1, 0] := by
  unfold Region.schedule
  simp only [Bool.true_or, if_true]
  unfold Region.linearise
  rcases Nat.mod_two_eq_zero_or_one t with h | h <;> simp [Region.linearise.go, h0, h1, List.range_succ, h, Nat.mod_one]
theorem slots31_of {args : Array Value} {x y : Value} (hx : argAt GP 32 args 0 = x) (hy : argAt GP 32 args 1 = y) : ∃ t2 t3 t4 t5 t6 t7 t8 t9 t10 t11 t12 t13 t14 t15 t16 t17 t18 t19 t20 t21 t22 t23 t24 t25 t26 t27 t28 t29 t30 : Value, ∃ rest : List Value, args ++ Array.replicate (31 - args.size) undef = (x :: y :: t2 :: t3 :: t4 :: t5 :: t6 :: t7 :: t8 :: t9 :: t10 :: t11 :: t12 :: t13 :: t14 :: t15 :: t16 :: t17 :: t18 :: t19 :: t20 :: t21 :: t22 :: t23 :: t24 :: t25 :: t26 :: t27 :: t28 :: t29 :: t30 :: rest).toArray := by
  obtain ⟨t0, t1, t2, t3, t4, t5, t6, t7, t8, t9, t10, t11, t12, t13, t14, t15, t16, t17, t18, t19, t20, t21, t22, t23, t24, t25, t26, t27, t28, t29, t30, rest, h⟩ := slots31 args
  rw [argAt_bad, h] at hx hy
  simp at hx hy
  subst hx hy
  exact ⟨t2, t3, t4, t5, t6, t7, t8, t9, t10, t11, t12, t13, t14, t15, t16, t17, t18, t19, t20, t21, t22, t23, t24, t25, t26, t27, t28, t29, t30, rest, h⟩
theorem fld64_0 (x y : Int) (W : World) : (Instr.field 64 (.agg #[.int .i64 x, .int .i64 y]) 0).run TryG.prog W = .ok (.int .i64 x) W := by
  simp [Instr.field, go_sem, asAgg]
theorem fld64_1 (x y : Int) (W : World) : (Instr.field 64 (.agg #[.int .i64 x, .int .i64 y]) 1).run TryG.prog W = .ok (.int .i64 y) W := by
  simp [Instr.field, go_sem, asAgg]
theorem fld35_1 (x : Int) (A : Option Addr) (n c : Nat) (y : Int) (W : World) : (Instr.field 35 (.agg #[.int .i64 x, .slice A n c, .int .i64 y]) 1).run TryG.prog W = .ok (.slice A n c) W := by
  simp [Instr.field, go_sem, asAgg]
theorem alloc_sz (w : World) (o : Obj) : (w.alloc o).heap.size = w.heap.size + 1 := Array.size_push ..
theorem alloc_get (w : World) (o : Obj) (b : Nat) : (w.alloc o).heap[b]? = if b = w.heap.size then some o else w.heap[b]? := Array.getElem?_push
theorem setCell_sz (w : World) (a : Addr) (v : Value) : (w.setCell a v).heap.size = w.heap.size := by simp [World.setCell]
def MuA (n : Nat) (a : Act) (_ : World) : Nat := match a.tmps.getD 12 undef with | .int _ j => n - j.toNat | _ => 0
/-- the ghost's world behind j rounds -/
structure AG (n : Nat) (D : Nat → ChkD) (w : World) (j : Nat) (wr : World) : Prop where
  ext : Ext w wr
  size : wr.heap.size = w.heap.size + 4 + 3 * j
  row : ∃ arr : Array Value, Blk wr (w.heap.size + 1) 4 arr ∧ arr.size = n ∧ ∀ i, i < j → arr[i]? = some (bad1 (D i).sum (D i).l (D i).fnd)
  duds : ∀ b, w.heap.size ≤ b → b < wr.heap.size → b ≠ w.heap.size + 1 → wr.heap[b]? = some dud
theorem range_run (W : World) : (Instr.range 9 (.string ⟨#[]⟩)).run TryG.prog W = .ok (.pointer (some ⟨W.heap.size, 0, none⟩)) (W.alloc dud) := by
  simp [Instr.range, go_sem]
theorem info4 : ∃ i0, TryG.prog.info? 4 = some i0 ∧ i0.zero = some (.bool false) ∧ i0.size = 1 ∧ i0.bytes = 1 := ⟨Try.t4, by kernel_rfl, by kernel_rfl, by kernel_rfl, by kernel_rfl⟩
theorem make_run (W : World) {n : Nat} (hn : n ≤ 16) : (Instr.makeSlice 60 (.int .i64 n) (.int .i64 n)).run TryG.prog W = .ok (.slice (some ⟨W.heap.size, 0, none⟩) n n) (W.alloc (.cells (madeCells #[.bool false] n) 4)) := by
  obtain ⟨i0, hi, hz0, hz1, hz2⟩ := info4
  have h := run_make (P := TryG.prog) W 60 4 i0 (.bool false) TryG.underlying60 hi hz0 .i64 .i64 n n (by omega) (by omega) (by rw [hz2]; omega) (by omega)
  simpa only [Int.toNat_natCast, hz1, Nat.mul_one, Value.cells] using h
theorem ag0 {n : Nat} {D : Nat → ChkD} (w : World) : AG n D w 0 ((((w.alloc dud).alloc (.cells (madeCells #[.bool false] n) 4)).alloc dud).alloc dud) := by
  refine ⟨((((Ext.refl w).alloc _).alloc _).alloc _).alloc _, ?_, ⟨_, by have hb := (((Blk.new (w.alloc dud) 4 (madeCells #[.bool false] n)).alloc dud).alloc dud); rw [show (w.alloc dud).heap.size = w.heap.size + 1 from Array.size_push ..] at hb; exact hb, size_madeCells _ _, fun i hi => by omega⟩, fun b h1 h2 h3 => ?_⟩
  · simp only [alloc_sz]
  · have h4 : b = w.heap.size ∨ b = w.heap.size + 2 ∨ b = w.heap.size + 3 := by simp only [alloc_sz] at h2; omega
    rcases h4 with rfl | rfl | rfl <;> simp only [alloc_get, alloc_sz] <;> simp
theorem AG.step {n j : Nat} {D : Nat → ChkD} {w wr : World} (h : AG n D w j wr) (hj : j < n) : AG n D w (j + 1) ((((wr.alloc dud).alloc dud).alloc dud).setCell ⟨w.heap.size + 1, j, none⟩ (bad1 (D j).sum (D j).l (D j).fnd)) := by
  obtain ⟨arr, hb, hs, hv⟩ := h.row
  have hb3 := ((hb.alloc dud).alloc dud).alloc dud
  have hsz := h.size
  refine ⟨(((h.ext.alloc _).alloc _).alloc _).setCell (by show w.heap.size ≤ w.heap.size + 1; omega) _, by simp only [setCell_sz, alloc_sz]; omega, ⟨_, hb3.set_ j _, by simpa using hs, fun i hi => ?_⟩, fun b h1 h2 h3 => ?_⟩
  · rw [Array.getElem?_setIfInBounds]
    by_cases e : j = i
    · subst e; rw [if_pos rfl, if_pos (by omega)]
    · rw [if_neg e]; exact hv i (by omega)
  · have e1 : ((((wr.alloc dud).alloc dud).alloc dud).setCell ⟨w.heap.size + 1, j, none⟩ (bad1 (D j).sum (D j).l (D j).fnd)).heap[b]? = (((wr.alloc dud).alloc dud).alloc dud).heap[b]? := Below.heap_setCell _ _ _ b h3
    rw [e1]
    rcases Nat.lt_or_ge b wr.heap.size with h4 | h4
    · simp only [alloc_get, alloc_sz]
      rw [if_neg (by omega), if_neg (by omega), if_neg (by omega)]
      exact h.duds b h1 h4 h3
    · have h5 : b = wr.heap.size ∨ b = wr.heap.size + 1 ∨ b = wr.heap.size + 2 := by simp only [setCell_sz, alloc_sz] at h2; omega
      rcases h5 with rfl | rfl | rfl <;> simp only [alloc_get, alloc_sz] <;> simp
set_option maxRecDepth 100000 in
set_option maxHeartbeats 4000000 in
theorem alone_wp {m : Option Nat} {base : Option Addr} {n cap : Nat} {D : Nat → ChkD} {R : Ending → World → Prop} {t3 t4 t5 t6 t7 t8 t9 t10 t11 t12 t13 t14 t15 t16 t17 t18 t19 t20 t21 t22 t23 t24 t25 t26 t27 t28 t29 t30 : Value} {rest : List Value} (w : World) (hP : ReadP (.map m) (.slice base n cap) w.heap.size w m base n cap D)
    (k : ∀ w', AG n D w n w' → R (.returned (.slice (some ⟨w.heap.size + 1, 0, none⟩) n n)) w') : seqAlone.wp TryG.prog (bodyPost TryG.prog seqBad R) { tmps := (.map m :: .slice base n cap :: .bool false :: t3 :: t4 :: t5 :: t6 :: t7 :: t8 :: t9 :: t10 :: t11 :: t12 :: t13 :: t14 :: t15 :: t16 :: t17 :: t18 :: t19 :: t20 :: t21 :: t22 :: t23 :: t24 :: t25 :: t26 :: t27 :: t28 :: t29 :: t30 :: rest).toArray, defers := [] } w := by
  have hn := hP.hn
  have HP := Lib.hid hP; clear hP
  have HK := Lib.hid k; clear k
  simp only [seqAlone, seqRound, reg, op1]
  refine wp_seq (wp_region ?_)
  simp [wpOps, go_sem, op1, range_run, make_run _ hn]
  repeat refine Or.inl ?_
  have hA0 : AG n D w 0 ((((w.alloc dud).alloc (.cells (madeCells #[.bool false] n) 4)).alloc dud).alloc dud) := ag0 w
  generalize ((((w.alloc dud).alloc (Obj.cells (madeCells #[Value.bool false] n) 4)).alloc dud).alloc dud) = w1 at hA0
  refine wp_seq (wp_block (wp_loop (fun a w' => ∃ (j : Nat) (v13 v16 v17 v18 v19 v20 v21 v22 v23 v24 v25 v26 v27 v28 v29 v30 : Value), j ≤ n ∧ AG n D w j w' ∧ a = { tmps := (.map m :: .slice base n cap :: .bool false :: t3 :: t4 :: t5 :: .pointer (some ⟨w.heap.size, 0, none⟩) :: .int .i64 n :: .slice (some ⟨w.heap.size + 1, 0, none⟩) n n :: .pointer (some ⟨w.heap.size + 1 + 1, 0, none⟩) :: .pointer (some ⟨w.heap.size + 1 + 1 + 1, 0, none⟩) :: t11 :: .int .i64 j :: v13 :: t14 :: t15 :: v16 :: v17 :: v18 :: v19 :: v20 :: v21 :: v22 :: v23 :: v24 :: v25 :: v26 :: v27 :: v28 :: v29 :: v30 :: rest).toArray, defers := [] }) (MuA n) ⟨0, _, _, _, _, _, _, _, _, _, _, _, _, _, _, _, _, by omega, hA0, rfl⟩ ?_))
  clear hA0 w1
  rintro a wr ⟨j, v13, v16, v17, v18, v19, v20, v21, v22, v23, v24, v25, v26, v27, v28, v29, v30, hj, hA, rfl⟩
  have HA := Lib.hid hA; clear hA
  by_cases hlt : j < n
  · have hlt' : (j : Int) < (n : Int) := by omega
    obtain ⟨⟨b', off, rfl, hb', hc0, hc1⟩, hR⟩ := HP.out.chk j hlt
    have q0 := HA.out.ext.cell hc0
    have q1 := HA.out.ext.cell hc1
    have hl : (Instr.lookup 56 (.map m) (.int .i64 (D j).id) true).run TryG.prog wr = .ok (.tuple #[.agg #[.int .i64 (D j).u, .slice (D j).base (D j).l.length (D j).cap, .int .i64 (D j).q], .bool (D j).fnd]) wr := hR.lookG wr HA.out.ext.size fun k hk _ => HA.out.ext.block hk
    have hCI : Hid (CInts (D j).base (D j).l w) := Lib.hid fun k x hx => by
      have hk := lt_of_get hx
      obtain ⟨b, o, h1, h2, h3⟩ := hR.ints k hk
      have e : (D j).l[k] = x := by rw [List.getElem?_eq_getElem hk] at hx; exact Option.some.inj hx
      exact ⟨b, o, h1, e ▸ h3⟩
    have hstep := Lib.hid (HA.out.step hlt)
    unfold bad1 at hstep
    obtain ⟨arr, hbk, hbs, -⟩ := HA.out.row
    have hbk3 := ((hbk.alloc dud).alloc dud).alloc dud
    have f0 := hbk3.frozen j
    have c0 : ((((wr.alloc dud).alloc dud).alloc dud).cell? ⟨w.heap.size + 1, j, none⟩) = some (arr[j]'(by omega)) := by rw [hbk3.cell]; simp [hbs, hlt]
    obtain ⟨old, hold⟩ : ∃ old, arr[j]'(by omega) = old := ⟨_, rfl⟩
    rw [hold] at c0
    clear hold
    have Hc : Hid (∀ W, W = ((wr.alloc dud).alloc dud).alloc dud → Calls TryG.prog 54 #[.slice (D j).base (D j).l.length (D j).cap] W (fun e w1 => e = .returned (.int .i64 (blkSum (D j).l)) ∧ w1 = W)) := Lib.hid fun W e => cBlockSum_c W (hCI.out.ext (e ▸ ((HA.out.ext.alloc _).alloc _).alloc _))
    generalize D j = d at *
    obtain ⟨did, dsum, du, dq, dbase, dcap, dl, dfnd⟩ := d
    simp only at *
    clear hc0 hc1 hR hbk hbk3 hbs hCI
    have g1 := fld64_0 did dsum; have g2 := fld64_1 did dsum; have g3 := fld35_1 du dbase dl.length dcap dq
    have g4 := range_run
    have ew : IntKind.i64.wrap ((j : Int) + 1) = ((j + 1 : Nat) : Int) := by rw [IntKind.wrap_i64]; omega
    cases dfnd with
    | false =>
      go_wp2
      refine ⟨⟨j + 1, _, _, _, _, _, _, _, _, _, _, _, _, _, _, _, _, by omega, hstep.out, rfl⟩, ?_⟩
      simp [MuA]; omega
    | true =>
      go_wp2_with (go_at_call 54; refine (Hc.out _ rfl).mono ?_; rintro e w2 ⟨rfl, rfl⟩)
      refine ⟨⟨j + 1, _, _, _, _, _, _, _, _, _, _, _, _, _, _, _, _, by omega, hstep.out, rfl⟩, ?_⟩
      simp [MuA]; omega
  · obtain rfl : j = n := by omega
    go_wp2
    exact HK.out _ HA.out
end Go.Sf

/-! The phase, part 31: the ghost's stand-in for badOf, whole; the phase of this program -/
namespace Go.Sf
open Go Go.Conc Go.RowKit Go.Proofs
theorem rgb_of {x y : Value} {v v1 w' : World} {m : Option Nat} {base : Option Addr} {n cap : Nat} {D : Nat → ChkD} (h : ReadP x y v.heap.size v m base n cap D) (h1 : v1.heap = v.heap) (h2 : v1.os = v.os) (h3 : v1.output = v.output) (hA : AG n D v1 n w') :
    RGB x y v (.slice (some ⟨v.heap.size + 1, 0, none⟩) n n) w' := by
  have e : v1.heap.size = v.heap.size := by rw [h1]
  obtain ⟨arr, hb, hs, hv⟩ := hA.row
  refine ⟨m, base, n, cap, D, h, rfl, (Below.os hA.ext).trans h2, (Below.output hA.ext).trans h3, ?_, fun b hb => ?_, ⟨arr, by rw [← e]; exact hb, hs, hv⟩, fun b g1 g2 g3 => hA.duds b (by omega) g2 (by omega)⟩
  · rw [hA.size, e]
  · rw [hA.ext.block (by omega), h1]
set_option maxRecDepth 100000 in
set_option maxHeartbeats 4000000 in
theorem bad_c (args : Array Value) (v : World) (hP : PreB (argAt GP 32 args 0) (argAt GP 32 args 1) v.heap.size v) :
    Calls GP 32 args v fun e v' => v'.tape = v.tape ∧ ((∃ u, e = .returned u ∧ RGB (argAt GP 32 args 0) (argAt GP 32 args 1) v u v') ∨ ((∃ ch, e = .panicked ch) ∧ v'.heap = v.heap.push (logOf 1 (argAt GP 32 args 0) (argAt GP 32 args 1)) ∧ ¬ San v.tape)) := by
  obtain ⟨m, base, n, cap, D, h⟩ := hP
  generalize hx : argAt GP 32 args 0 = x at *
  generalize hy : argAt GP 32 args 1 = y at *
  obtain ⟨t2, t3, t4, t5, t6, t7, t8, t9, t10, t11, t12, t13, t14, t15, t16, t17, t18, t19, t20, t21, t22, t23, t24, t25, t26, t27, t28, t29, t30, rest, hargs⟩ := slots31_of hx hy
  refine calls_seq_draw gp32 rfl ?_
  show wpOps GP _ _ (Region.schedule (GP.follows .mixedOrders) _ _) { tmps := args ++ Array.replicate (31 - args.size) undef, defers := [] } _
  have ex := h.hx
  have ey := h.hy
  rw [hargs, gp_follows, sch2 _ _ rfl rfl]
  clear hargs
  split
  · next ht =>
    have HR : Hid (∀ w', AG n D { v with drawn := v.drawn + 1 } n w' → w'.tape = v.tape ∧ RGB x y v (.slice (some ⟨v.heap.size + 1, 0, none⟩) n n) w') := Lib.hid fun w' hA => ⟨(Below.tape hA.ext : w'.tape = _), rgb_of (v1 := { v with drawn := v.drawn + 1 }) h rfl rfl rfl hA⟩
    have h1 : ReadP x y v.heap.size { v with drawn := v.drawn + 1 } m base n cap D := readP_stays h (Nat.le_refl _) fun _ _ _ => rfl
    have HR1 := Lib.hid h1
    clear h1 h hx hy ht
    subst ex ey
    simp [wpOps, go_sem, op1]
    refine .inl (.inl ?_)
    refine wp_cond_false rfl ?_
    refine alone_wp _ HR1.out fun w' hA => ?_
    obtain ⟨h1, h2⟩ := HR.out w' hA
    exact ⟨h1, .inl ⟨_, rfl, h2⟩⟩
  · next ht =>
    have hS : ¬ San v.tape := fun hS => ht (by rw [show v.tape v.drawn (.order 32 0) = 0 from hS _])
    have HS := Lib.hid hS
    clear h hx hy ht hS
    subst ex ey
    simp [wpOps, go_sem, op1]
    refine .inl (.inl ?_)
    refine wp_cond_true rfl ?_
    unfold seqProbe reg
    refine wp_seq (wp_region ?_)
    simp [wpOps, go_sem, op1, Instr.makeFunc]
    refine .inl (.inl (.inl ⟨rfl, rfl, .inr ⟨⟨_, rfl⟩, rfl, HS.out⟩⟩))
theorem rgb_re {x y u : Value} {v v' : World} {τ : TapeT} (h : RGB x y (v.re τ 0) u v') : RGB x y v u v'.nil := by
  obtain ⟨m, base, n, cap, D, h, r⟩ := h
  exact ⟨m, base, n, cap, D, readP_stays h (Nat.le_refl _) (fun _ _ _ => rfl), r⟩
/-- **the phase of this program** -/
def thePhase [Odds] : Phase Try.prog := {
  Pre := PreB
  RG := RGB
  ty := 1
  stays := preB_stays
  probe := probe_c
  alone := fun args v hP τ hτ => by
    have h := bad_c args (v.re τ 0) (preB_stays _ _ _ v _ hP (Nat.le_refl _) fun _ _ _ h _ => h)
    refine h.mono fun e v' hv => ?_
    obtain ⟨-, ⟨u, rfl, hR⟩ | ⟨-, -, hn⟩⟩ := hv
    · exact ⟨u, rfl, rgb_re hR⟩
    · exact absurd hτ hn
  phase := fun Post S v w args c cs u v2 hW _ hR hc => phase_c Post S v w args c cs u v2 hW hR hc }
end Go.Sf
