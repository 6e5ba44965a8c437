/- What the tables of the program say of the slice types that are appended to. -/
import Derived.Test.YtphgnbjikgglmaaGhost
import Derived.Test.YtphgnbjikgglmaaGA
import Derived.Test.YtphgnbjikgglmaaGB
set_option linter.all false
/-! What the tables of the program say of the slice types that are appended to. -/
namespace Go.Sf
open Go Go.RowKit Go.Proofs
theorem el_int : Elem TryG.prog 32 3 1 :=
  elem_of (z := .int .i64 0) (b := 8) TryG.underlying32 (by kernel_rfl) (by decide) rfl (by decide)
theorem el_Hd : Elem TryG.prog 23 35 3 :=
  elem_of (z := .agg #[.int .i64 0, .slice none 0 0, .int .i64 0]) (b := 40) TryG.underlying23 (by kernel_rfl) (by decide) rfl (by decide)
theorem el_Ck : Elem TryG.prog 24 64 2 :=
  elem_of (z := .agg #[.int .i64 0, .int .i64 0]) (b := 16) TryG.underlying24 (by kernel_rfl) (by decide) rfl (by decide)
end Go.Sf

/-! Values are compared: slices by a loop, structs field by field. -/
namespace Go.Sf
open Go Go.RowKit Go.Proofs

set_option maxHeartbeats 1000000 in
theorem laws_sameInts_c {B B' : Nat} {u v : Value} {xs ys : List Int} (w : World) (h1 : Ints B w u xs) (h2 : Ints B' w v ys) :
    Calls TryG.prog 14 #[u, v] w (Ret (.bool (eqb xs ys)) w) := by
  obtain ⟨A, c, rfl, hA⟩ := h1
  obtain ⟨A', c', rfl, hA'⟩ := h2
  have hl := hA.2.2.1
  have hl' := hA'.2.2.1
  unfold lim at hl hl'
  generalize hn : xs.length = n at *
  generalize hm : ys.length = m at *
  have Hn := Lib.hid hn; clear hn
  have Hm := Lib.hid hm; clear hm
  have HA := Lib.hid hA; clear hA
  have HA' := Lib.hid hA'; clear hA'
  by_cases hne : n = m
  · subst hne
    go_enter TryG.func14, TryG.ntmps14
    go_wp2
    go_loopw [5] (fun i  wr => ∃ k : Nat, k ≤ n ∧ i = .int .i64 k ∧ Ext w wr ∧ Alike xs ys k) (fun i  _ => n - (intOf i).toNat)
    case atStart => exact ⟨0, by omega, rfl, Ext.refl w, Alike.zero _ _⟩
    case round =>
      obtain ⟨k, hk, rfl, he, hal⟩ := hrel
      by_cases hlt : k < n
      · obtain ⟨x, hx⟩ := get_of_lt (l := xs) (k := k) (by rw [Hn.out]; exact hlt)
        obtain ⟨y, hy⟩ := get_of_lt (l := ys) (k := k) (by rw [Hm.out]; exact hlt)
        obtain ⟨b1, o1, rfl, -, -, -, hc01⟩ := Ints.at_ HA.out hx
        obtain ⟨b2, o2, rfl, -, -, -, hc02⟩ := Ints.at_ HA'.out hy
        have a0 := fun W (h : Ext wr W) => hc01 W (he.trans h)
        have d0 := fun W (h : Ext wr W) => hc02 W (he.trans h)
        have Hx := Lib.hid hx; have Hy := Lib.hid hy; have Hal := Lib.hid hal
        clear hc01 hc02 hx hy hal
        go_wp2
        refine wp_region_ext (by kernel_rfl) (by kernel_rfl) ?_
        repeat (first | (apply q_plain rfl; (· intro W eW; go_simp; (first | done | rfl | (rw [if_pos] <;> first | omega | rfl))); (try simp only [Act.put, List.setIfInBounds_toArray, List.set_cons_zero, List.set_cons_succ])) | (refine qg_skip (by rfl) ?_; (try simp only [Act.put, List.setIfInBounds_toArray, List.set_cons_zero, List.set_cons_succ])) | (apply qg_plain (by rfl); (· intro W eW; go_simp; (first | done | rfl | (rw [if_pos] <;> first | omega | rfl))); (try simp only [Act.put, List.setIfInBounds_toArray, List.set_cons_zero, List.set_cons_succ])))
        refine q_nil ?_
        intro w2 e2
        have e3 := he.trans e2
        clear a0 d0
        go_wp2
        · have hxy : (x != y) = true := by assumption
          go_ret
          exact ⟨ret_eqb (by simp [ne_of_get Hx.out Hy.out (by simpa using hxy)]), e3⟩
        · have hxy : (x != y) = false := by assumption
          have hxy : x = y := by simpa using hxy
          go_roundw
          case rel => exact ⟨k + 1, by omega, by go_num, e3, Hal.out.succ Hx.out (by rw [Hy.out, hxy])⟩
          case measure => simp [intOf]; omega
      · have : k = n := by omega
        subst this
        have hal := Lib.hid hal
        go_wp2
        go_ret
        exact ⟨ret_eqb (by simp [eq_of_get Hn.out Hm.out hal.out]), he⟩
  · have hne' : ((n : Int) != (m : Int)) = true := by simp; omega
    go_enter TryG.func14, TryG.ntmps14
    go_wp2
    go_ret
    refine ⟨ret_eqb ?_, Ext.refl w⟩
    have : xs ≠ ys := by rintro rfl; exact hne (Hn.out.symm.trans Hm.out)
    simp [this]

set_option maxHeartbeats 1000000 in
theorem spec_l2Same_c {B B' : Nat} {u v : Value} {xs ys : List Int} (w : World) (h1 : Ints B w u xs) (h2 : Ints B' w v ys) :
    Calls TryG.prog 60 #[u, v] w (Ret (.bool (eqb xs ys)) w) := by
  obtain ⟨A, c, rfl, hA⟩ := h1
  obtain ⟨A', c', rfl, hA'⟩ := h2
  have hl := hA.2.2.1
  have hl' := hA'.2.2.1
  unfold lim at hl hl'
  generalize hn : xs.length = n at *
  generalize hm : ys.length = m at *
  have Hn := Lib.hid hn; clear hn
  have Hm := Lib.hid hm; clear hm
  have HA := Lib.hid hA; clear hA
  have HA' := Lib.hid hA'; clear hA'
  by_cases hne : n = m
  · subst hne
    go_enter TryG.func60, TryG.ntmps60
    go_wp2
    go_loopw [5] (fun i  wr => ∃ k : Nat, k ≤ n ∧ i = .int .i64 k ∧ Ext w wr ∧ Alike xs ys k) (fun i  _ => n - (intOf i).toNat)
    case atStart => exact ⟨0, by omega, rfl, Ext.refl w, Alike.zero _ _⟩
    case round =>
      obtain ⟨k, hk, rfl, he, hal⟩ := hrel
      by_cases hlt : k < n
      · obtain ⟨x, hx⟩ := get_of_lt (l := xs) (k := k) (by rw [Hn.out]; exact hlt)
        obtain ⟨y, hy⟩ := get_of_lt (l := ys) (k := k) (by rw [Hm.out]; exact hlt)
        obtain ⟨b1, o1, rfl, -, -, -, hc01⟩ := Ints.at_ HA.out hx
        obtain ⟨b2, o2, rfl, -, -, -, hc02⟩ := Ints.at_ HA'.out hy
        have a0 := fun W (h : Ext wr W) => hc01 W (he.trans h)
        have d0 := fun W (h : Ext wr W) => hc02 W (he.trans h)
        have Hx := Lib.hid hx; have Hy := Lib.hid hy; have Hal := Lib.hid hal
        clear hc01 hc02 hx hy hal
        go_wp2
        refine wp_region_ext (by kernel_rfl) (by kernel_rfl) ?_
        repeat (first | (apply q_plain rfl; (· intro W eW; go_simp; (first | done | rfl | (rw [if_pos] <;> first | omega | rfl))); (try simp only [Act.put, List.setIfInBounds_toArray, List.set_cons_zero, List.set_cons_succ])) | (refine qg_skip (by rfl) ?_; (try simp only [Act.put, List.setIfInBounds_toArray, List.set_cons_zero, List.set_cons_succ])) | (apply qg_plain (by rfl); (· intro W eW; go_simp; (first | done | rfl | (rw [if_pos] <;> first | omega | rfl))); (try simp only [Act.put, List.setIfInBounds_toArray, List.set_cons_zero, List.set_cons_succ])))
        refine q_nil ?_
        intro w2 e2
        have e3 := he.trans e2
        clear a0 d0
        go_wp2
        · have hxy : (x != y) = true := by assumption
          go_ret
          exact ⟨ret_eqb (by simp [ne_of_get Hx.out Hy.out (by simpa using hxy)]), e3⟩
        · have hxy : (x != y) = false := by assumption
          have hxy : x = y := by simpa using hxy
          go_roundw
          case rel => exact ⟨k + 1, by omega, by go_num, e3, Hal.out.succ Hx.out (by rw [Hy.out, hxy])⟩
          case measure => simp [intOf]; omega
      · have : k = n := by omega
        subst this
        have hal := Lib.hid hal
        go_wp2
        go_ret
        exact ⟨ret_eqb (by simp [eq_of_get Hn.out Hm.out hal.out]), he⟩
  · have hne' : ((n : Int) != (m : Int)) = true := by simp; omega
    go_enter TryG.func60, TryG.ntmps60
    go_wp2
    go_ret
    refine ⟨ret_eqb ?_, Ext.refl w⟩
    have : xs ≠ ys := by rintro rfl; exact hne (Hn.out.symm.trans Hm.out)
    simp [this]

set_option maxHeartbeats 1000000 in
theorem laws_eqIntS_c {B B' : Nat} {u v : Value} {xs ys : List Int} (w : World) (h1 : Ints B w u xs) (h2 : Ints B' w v ys) :
    Calls TryG.prog 65 #[u, v] w (Ret (.bool (eqb xs ys)) w) := by
  obtain ⟨A, c, rfl, hA⟩ := h1
  obtain ⟨A', c', rfl, hA'⟩ := h2
  have hl := hA.2.2.1
  have hl' := hA'.2.2.1
  unfold lim at hl hl'
  generalize hn : xs.length = n at *
  generalize hm : ys.length = m at *
  have Hn := Lib.hid hn; clear hn
  have Hm := Lib.hid hm; clear hm
  have HA := Lib.hid hA; clear hA
  have HA' := Lib.hid hA'; clear hA'
  by_cases hne : n = m
  · subst hne
    go_enter TryG.func65, TryG.ntmps65
    go_wp2
    go_loopw [5] (fun i  wr => ∃ k : Nat, k ≤ n ∧ i = .int .i64 k ∧ Ext w wr ∧ Alike xs ys k) (fun i  _ => n - (intOf i).toNat)
    case atStart => exact ⟨0, by omega, rfl, Ext.refl w, Alike.zero _ _⟩
    case round =>
      obtain ⟨k, hk, rfl, he, hal⟩ := hrel
      by_cases hlt : k < n
      · obtain ⟨x, hx⟩ := get_of_lt (l := xs) (k := k) (by rw [Hn.out]; exact hlt)
        obtain ⟨y, hy⟩ := get_of_lt (l := ys) (k := k) (by rw [Hm.out]; exact hlt)
        obtain ⟨b1, o1, rfl, -, -, -, hc01⟩ := Ints.at_ HA.out hx
        obtain ⟨b2, o2, rfl, -, -, -, hc02⟩ := Ints.at_ HA'.out hy
        have a0 := fun W (h : Ext wr W) => hc01 W (he.trans h)
        have d0 := fun W (h : Ext wr W) => hc02 W (he.trans h)
        have Hx := Lib.hid hx; have Hy := Lib.hid hy; have Hal := Lib.hid hal
        clear hc01 hc02 hx hy hal
        go_wp2
        refine wp_region_ext (by kernel_rfl) (by kernel_rfl) ?_
        repeat (first | (apply q_plain rfl; (· intro W eW; go_simp; (first | done | rfl | (rw [if_pos] <;> first | omega | rfl))); (try simp only [Act.put, List.setIfInBounds_toArray, List.set_cons_zero, List.set_cons_succ])) | (refine qg_skip (by rfl) ?_; (try simp only [Act.put, List.setIfInBounds_toArray, List.set_cons_zero, List.set_cons_succ])) | (apply qg_plain (by rfl); (· intro W eW; go_simp; (first | done | rfl | (rw [if_pos] <;> first | omega | rfl))); (try simp only [Act.put, List.setIfInBounds_toArray, List.set_cons_zero, List.set_cons_succ])))
        refine q_nil ?_
        intro w2 e2
        have e3 := he.trans e2
        clear a0 d0
        go_wp2
        · have hxy : (x != y) = true := by assumption
          go_ret
          exact ⟨ret_eqb (by simp [ne_of_get Hx.out Hy.out (by simpa using hxy)]), e3⟩
        · have hxy : (x != y) = false := by assumption
          have hxy : x = y := by simpa using hxy
          go_roundw
          case rel => exact ⟨k + 1, by omega, by go_num, e3, Hal.out.succ Hx.out (by rw [Hy.out, hxy])⟩
          case measure => simp [intOf]; omega
      · have : k = n := by omega
        subst this
        have hal := Lib.hid hal
        go_wp2
        go_ret
        exact ⟨ret_eqb (by simp [eq_of_get Hn.out Hm.out hal.out]), he⟩
  · have hne' : ((n : Int) != (m : Int)) = true := by simp; omega
    go_enter TryG.func65, TryG.ntmps65
    go_wp2
    go_ret
    refine ⟨ret_eqb ?_, Ext.refl w⟩
    have : xs ≠ ys := by rintro rfl; exact hne (Hn.out.symm.trans Hm.out)
    simp [this]

set_option maxHeartbeats 1000000 in
theorem slices_Equal_int_c {B B' : Nat} {u v : Value} {xs ys : List Int} (w : World) (h1 : Ints B w u xs) (h2 : Ints B' w v ys) :
    Calls TryG.prog 42 #[u, v] w (Ret (.bool (eqb xs ys)) w) := by
  obtain ⟨A, c, rfl, hA⟩ := h1
  obtain ⟨A', c', rfl, hA'⟩ := h2
  have hl := hA.2.2.1
  have hl' := hA'.2.2.1
  unfold lim at hl hl'
  generalize hn : xs.length = n at *
  generalize hm : ys.length = m at *
  have Hn := Lib.hid hn; clear hn
  have Hm := Lib.hid hm; clear hm
  have HA := Lib.hid hA; clear hA
  have HA' := Lib.hid hA'; clear hA'
  by_cases hne : n = m
  · subst hne
    go_enter TryG.func42, TryG.ntmps42
    go_wp2
    go_loopw [13] (fun i  wr => ∃ k : Nat, k ≤ n ∧ i = .int .i64 k ∧ Ext w wr ∧ Alike xs ys k) (fun i  _ => n - (intOf i).toNat)
    case atStart => exact ⟨0, by omega, rfl, Ext.refl w, Alike.zero _ _⟩
    case round =>
      obtain ⟨k, hk, rfl, he, hal⟩ := hrel
      by_cases hlt : k < n
      · obtain ⟨x, hx⟩ := get_of_lt (l := xs) (k := k) (by rw [Hn.out]; exact hlt)
        obtain ⟨y, hy⟩ := get_of_lt (l := ys) (k := k) (by rw [Hm.out]; exact hlt)
        obtain ⟨b1, o1, rfl, -, -, -, hc01⟩ := Ints.at_ HA.out hx
        obtain ⟨b2, o2, rfl, -, -, -, hc02⟩ := Ints.at_ HA'.out hy
        have a0 := fun W (h : Ext wr W) => hc01 W (he.trans h)
        have d0 := fun W (h : Ext wr W) => hc02 W (he.trans h)
        have Hx := Lib.hid hx; have Hy := Lib.hid hy; have Hal := Lib.hid hal
        clear hc01 hc02 hx hy hal
        go_wp2
        refine wp_region_ext (by kernel_rfl) (by kernel_rfl) ?_
        repeat (first | (apply q_plain rfl; (· intro W eW; go_simp; (first | done | rfl | (rw [if_pos] <;> first | omega | rfl))); (try simp only [Act.put, List.setIfInBounds_toArray, List.set_cons_zero, List.set_cons_succ])) | (refine qg_skip (by rfl) ?_; (try simp only [Act.put, List.setIfInBounds_toArray, List.set_cons_zero, List.set_cons_succ])) | (apply qg_plain (by rfl); (· intro W eW; go_simp; (first | done | rfl | (rw [if_pos] <;> first | omega | rfl))); (try simp only [Act.put, List.setIfInBounds_toArray, List.set_cons_zero, List.set_cons_succ])))
        refine q_nil ?_
        intro w2 e2
        have e3 := he.trans e2
        clear a0 d0
        go_wp2
        · have hxy : (x != y) = true := by assumption
          go_ret
          exact ⟨ret_eqb (by simp [ne_of_get Hx.out Hy.out (by simpa using hxy)]), e3⟩
        · have hxy : (x != y) = false := by assumption
          have hxy : x = y := by simpa using hxy
          go_roundw
          case rel => exact ⟨k + 1, by omega, by go_num, e3, Hal.out.succ Hx.out (by rw [Hy.out, hxy])⟩
          case measure => simp [intOf]; omega
      · have : k = n := by omega
        subst this
        have hal := Lib.hid hal
        go_wp2
        go_ret
        exact ⟨ret_eqb (by simp [eq_of_get Hn.out Hm.out hal.out]), he⟩
  · have hne' : ((n : Int) != (m : Int)) = true := by simp; omega
    go_enter TryG.func42, TryG.ntmps42
    go_wp2
    go_ret
    refine ⟨ret_eqb ?_, Ext.refl w⟩
    have : xs ≠ ys := by rintro rfl; exact hne (Hn.out.symm.trans Hm.out)
    simp [this]









set_option maxHeartbeats 1000000 in
theorem laws_sameHeld_c {B B' : Nat} {u v : Value} {x y : Hd} (w : World) (h1 : HdV B w u x) (h2 : HdV B' w v y) :
    Calls TryG.prog 40 #[u, v] w (Ret (.bool (eqb x y)) w) := by
  obtain ⟨xid, xbytes, xuses⟩ := x
  obtain ⟨yid, ybytes, yuses⟩ := y
  obtain ⟨u1x, rfl, g0x, g1x, g2x⟩ := h1
  obtain ⟨u1y, rfl, g0y, g1y, g2y⟩ := h2
  have G0x := Lib.hid g0x; clear g0x
  have G0y := Lib.hid g0y; clear g0y
  have G1x := Lib.hid g1x; clear g1x
  have G1y := Lib.hid g1y; clear g1y
  have G2x := Lib.hid g2x; clear g2x
  have G2y := Lib.hid g2y; clear g2y
  obtain ⟨Ax, cx, rfl, -⟩ := G1x.out
  obtain ⟨Ay, cy, rfl, -⟩ := G1y.out
  go_enter TryG.func40, TryG.ntmps40
  go_wp2_with (first | (go_at_call 14; refine (laws_sameInts_c _ (Ints.ext G1x.out (by first | assumption | go_simp)) (Ints.ext G1y.out (by first | assumption | go_simp))).mono ?_; rintro e w' ⟨rfl, he'⟩; have he := Ext.trans (a := w) (by first | assumption | go_simp) he'; clear he'))
  all_goals go_ret
  all_goals simp only at *
  all_goals refine ⟨ret_eqb ?_, by first | assumption | go_simp⟩
  all_goals simp only [Hd.mk.injEq]
  all_goals (try simp_all [eqb_iff])

set_option maxHeartbeats 1000000 in
theorem laws_eqHeld_c {B B' : Nat} {u v : Value} {x y : Hd} (w : World) (h1 : HdV B w u x) (h2 : HdV B' w v y) :
    Calls TryG.prog 46 #[u, v] w (Ret (.bool (eqb x y)) w) := by
  obtain ⟨xid, xbytes, xuses⟩ := x
  obtain ⟨yid, ybytes, yuses⟩ := y
  obtain ⟨u1x, rfl, g0x, g1x, g2x⟩ := h1
  obtain ⟨u1y, rfl, g0y, g1y, g2y⟩ := h2
  have G0x := Lib.hid g0x; clear g0x
  have G0y := Lib.hid g0y; clear g0y
  have G1x := Lib.hid g1x; clear g1x
  have G1y := Lib.hid g1y; clear g1y
  have G2x := Lib.hid g2x; clear g2x
  have G2y := Lib.hid g2y; clear g2y
  have hx2 : ∀ W, Ext ((w.alloc (.cells #[.int .i64 xid, u1x, .int .i64 xuses] 35)).alloc (.cells #[.int .i64 yid, u1y, .int .i64 yuses] 35)) W → W.cell? ⟨w.heap.size, 2, none⟩ = some (.int .i64 xuses) := fun W e => by
    have := (((Blk.new w 35 #[.int .i64 xid, u1x, .int .i64 xuses]).alloc (.cells #[.int .i64 yid, u1y, .int .i64 yuses] 35)).ext e).cell 2
    simpa using this
  have hy2 : ∀ W, Ext ((w.alloc (.cells #[.int .i64 xid, u1x, .int .i64 xuses] 35)).alloc (.cells #[.int .i64 yid, u1y, .int .i64 yuses] 35)) W → W.cell? ⟨w.heap.size + 1, 2, none⟩ = some (.int .i64 yuses) := fun W e => by
    have := ((Blk.new (w.alloc (.cells #[.int .i64 xid, u1x, .int .i64 xuses] 35)) 35 #[.int .i64 yid, u1y, .int .i64 yuses]).ext e).cell 2
    simpa using this
  obtain ⟨Ax, cx, rfl, -⟩ := G1x.out
  obtain ⟨Ay, cy, rfl, -⟩ := G1y.out
  go_enter TryG.func46, TryG.ntmps46
  go_wp2_with (first | (go_at_call 65; refine (laws_eqIntS_c _ (Ints.ext G1x.out (by first | assumption | go_simp)) (Ints.ext G1y.out (by first | assumption | go_simp))).mono ?_; rintro e w' ⟨rfl, he'⟩; have k2 := hx2 w' he'; have m2 := hy2 w' he'; have he := Ext.trans (a := w) (by first | assumption | go_simp) he'; clear he'))
  all_goals go_ret
  all_goals simp only at *
  all_goals refine ⟨ret_eqb ?_, by first | assumption | go_simp⟩
  all_goals simp only [Hd.mk.injEq]
  all_goals (try simp_all [eqb_iff, eqb_false])





set_option maxHeartbeats 1000000 in
theorem laws_sameStore_c {B B' : Nat} {u v : Value} {xs ys : List Hd} (w : World) (h1 : Hds B w u xs) (h2 : Hds B' w v ys) :
    Calls TryG.prog 11 #[u, v] w (Ret (.bool (eqb xs ys)) w) := by
  obtain ⟨A, c, rfl, hA⟩ := h1
  obtain ⟨A', c', rfl, hA'⟩ := h2
  have hl := hA.2.2.1
  have hl' := hA'.2.2.1
  unfold lim at hl hl'
  generalize hn : xs.length = n at *
  generalize hm : ys.length = m at *
  have Hn := Lib.hid hn; clear hn
  have Hm := Lib.hid hm; clear hm
  have HA := Lib.hid hA; clear hA
  have HA' := Lib.hid hA'; clear hA'
  by_cases hne : n = m
  · subst hne
    go_enter TryG.func11, TryG.ntmps11
    go_wp2
    go_loopw [5] (fun i  wr => ∃ k : Nat, k ≤ n ∧ i = .int .i64 k ∧ Ext w wr ∧ Alike xs ys k) (fun i  _ => n - (intOf i).toNat)
    case atStart => exact ⟨0, by omega, rfl, Ext.refl w, Alike.zero _ _⟩
    case round =>
      obtain ⟨k, hk, rfl, he, hal⟩ := hrel
      by_cases hlt : k < n
      · obtain ⟨x, hx⟩ := get_of_lt (l := xs) (k := k) (by rw [Hn.out]; exact hlt)
        obtain ⟨y, hy⟩ := get_of_lt (l := ys) (k := k) (by rw [Hm.out]; exact hlt)
        obtain ⟨b1, o1, u11, rfl, -, -, g01, g11, g21, hc01, hc11, hc21⟩ := Hds.at_ HA.out hx
        obtain ⟨b2, o2, u12, rfl, -, -, g02, g12, g22, hc02, hc12, hc22⟩ := Hds.at_ HA'.out hy
        have a0 := fun W (h : Ext wr W) => hc01 W (he.trans h)
        have d0 := fun W (h : Ext wr W) => hc02 W (he.trans h)
        have a1 := fun W (h : Ext wr W) => hc11 W (he.trans h)
        have d1 := fun W (h : Ext wr W) => hc12 W (he.trans h)
        have a2 := fun W (h : Ext wr W) => hc21 W (he.trans h)
        have d2 := fun W (h : Ext wr W) => hc22 W (he.trans h)
        have Hx := Lib.hid hx; have Hy := Lib.hid hy; have Hal := Lib.hid hal
        clear hc01 hc02 hc11 hc12 hc21 hc22 hx hy hal
        go_wp2
        refine wp_region_ext (by kernel_rfl) (by kernel_rfl) ?_
        repeat (first | (apply q_plain rfl; (· intro W eW; go_simp; (first | done | rfl | (rw [if_pos] <;> first | omega | rfl))); (try simp only [Act.put, List.setIfInBounds_toArray, List.set_cons_zero, List.set_cons_succ])) | (refine qg_skip (by rfl) ?_; (try simp only [Act.put, List.setIfInBounds_toArray, List.set_cons_zero, List.set_cons_succ])) | (apply qg_plain (by rfl); (· intro W eW; go_simp; (first | done | rfl | (rw [if_pos] <;> first | omega | rfl))); (try simp only [Act.put, List.setIfInBounds_toArray, List.set_cons_zero, List.set_cons_succ])))
        ((first | apply q_call rfl | apply qg_call (by rfl)); (· intro W eW; go_simp; (first | done | (constructor <;> rfl))); (· intro W eW; exact laws_sameHeld_c (x := x) (y := y) _ ⟨_, rfl, g01, g11.ext ((he.trans eW)), g21⟩ ⟨_, rfl, g02, g12.ext ((he.trans eW)), g22⟩); (try simp only [Act.put, List.setIfInBounds_toArray, List.set_cons_zero, List.set_cons_succ]))
        repeat (first | (apply q_plain rfl; (· intro W eW; go_simp; (first | done | rfl | (rw [if_pos] <;> first | omega | rfl))); (try simp only [Act.put, List.setIfInBounds_toArray, List.set_cons_zero, List.set_cons_succ])) | (refine qg_skip (by rfl) ?_; (try simp only [Act.put, List.setIfInBounds_toArray, List.set_cons_zero, List.set_cons_succ])) | (apply qg_plain (by rfl); (· intro W eW; go_simp; (first | done | rfl | (rw [if_pos] <;> first | omega | rfl))); (try simp only [Act.put, List.setIfInBounds_toArray, List.set_cons_zero, List.set_cons_succ])))
        refine q_nil ?_
        intro w2 e2
        have e3 := he.trans e2
        clear a0 d0 a1 d1 a2 d2
        go_wp2
        · have hxy : eqb x y = false := by have q : (!eqb x y) = true := by assumption
                                           simpa using q
          go_ret
          exact ⟨ret_eqb (by simp [ne_of_get Hx.out Hy.out (eqb_false.1 hxy)]), e3⟩
        · have hxy : eqb x y = true := by have q : (!eqb x y) = false := by assumption
                                          simpa using q
          have hxy : x = y := eqb_true.1 hxy
          go_roundw
          case rel => exact ⟨k + 1, by omega, by go_num, e3, Hal.out.succ Hx.out (by rw [Hy.out, hxy])⟩
          case measure => simp [intOf]; omega
      · have : k = n := by omega
        subst this
        have hal := Lib.hid hal
        go_wp2
        go_ret
        exact ⟨ret_eqb (by simp [eq_of_get Hn.out Hm.out hal.out]), he⟩
  · have hne' : ((n : Int) != (m : Int)) = true := by simp; omega
    go_enter TryG.func11, TryG.ntmps11
    go_wp2
    go_ret
    refine ⟨ret_eqb ?_, Ext.refl w⟩
    have : xs ≠ ys := by rintro rfl; exact hne (Hn.out.symm.trans Hm.out)
    simp [this]




set_option maxHeartbeats 1000000 in
theorem laws_eqHeldS_c {B B' : Nat} {u v : Value} {xs ys : List Hd} (w : World) (h1 : Hds B w u xs) (h2 : Hds B' w v ys) :
    Calls TryG.prog 20 #[u, v] w (Ret (.bool (eqb xs ys)) w) := by
  obtain ⟨A, c, rfl, hA⟩ := h1
  obtain ⟨A', c', rfl, hA'⟩ := h2
  have hl := hA.2.2.1
  have hl' := hA'.2.2.1
  unfold lim at hl hl'
  generalize hn : xs.length = n at *
  generalize hm : ys.length = m at *
  have Hn := Lib.hid hn; clear hn
  have Hm := Lib.hid hm; clear hm
  have HA := Lib.hid hA; clear hA
  have HA' := Lib.hid hA'; clear hA'
  by_cases hne : n = m
  · subst hne
    go_enter TryG.func20, TryG.ntmps20
    go_wp2
    go_loopw [5] (fun i  wr => ∃ k : Nat, k ≤ n ∧ i = .int .i64 k ∧ Ext w wr ∧ Alike xs ys k) (fun i  _ => n - (intOf i).toNat)
    case atStart => exact ⟨0, by omega, rfl, Ext.refl w, Alike.zero _ _⟩
    case round =>
      obtain ⟨k, hk, rfl, he, hal⟩ := hrel
      by_cases hlt : k < n
      · obtain ⟨x, hx⟩ := get_of_lt (l := xs) (k := k) (by rw [Hn.out]; exact hlt)
        obtain ⟨y, hy⟩ := get_of_lt (l := ys) (k := k) (by rw [Hm.out]; exact hlt)
        obtain ⟨b1, o1, u11, rfl, -, -, g01, g11, g21, hc01, hc11, hc21⟩ := Hds.at_ HA.out hx
        obtain ⟨b2, o2, u12, rfl, -, -, g02, g12, g22, hc02, hc12, hc22⟩ := Hds.at_ HA'.out hy
        have a0 := fun W (h : Ext wr W) => hc01 W (he.trans h)
        have d0 := fun W (h : Ext wr W) => hc02 W (he.trans h)
        have a1 := fun W (h : Ext wr W) => hc11 W (he.trans h)
        have d1 := fun W (h : Ext wr W) => hc12 W (he.trans h)
        have a2 := fun W (h : Ext wr W) => hc21 W (he.trans h)
        have d2 := fun W (h : Ext wr W) => hc22 W (he.trans h)
        have Hx := Lib.hid hx; have Hy := Lib.hid hy; have Hal := Lib.hid hal
        clear hc01 hc02 hc11 hc12 hc21 hc22 hx hy hal
        go_wp2
        refine wp_region_ext (by kernel_rfl) (by kernel_rfl) ?_
        repeat (first | (apply q_plain rfl; (· intro W eW; go_simp; (first | done | rfl | (rw [if_pos] <;> first | omega | rfl))); (try simp only [Act.put, List.setIfInBounds_toArray, List.set_cons_zero, List.set_cons_succ])) | (refine qg_skip (by rfl) ?_; (try simp only [Act.put, List.setIfInBounds_toArray, List.set_cons_zero, List.set_cons_succ])) | (apply qg_plain (by rfl); (· intro W eW; go_simp; (first | done | rfl | (rw [if_pos] <;> first | omega | rfl))); (try simp only [Act.put, List.setIfInBounds_toArray, List.set_cons_zero, List.set_cons_succ])))
        ((first | apply q_call rfl | apply qg_call (by rfl)); (· intro W eW; go_simp; (first | done | (constructor <;> rfl))); (· intro W eW; exact laws_eqHeld_c (x := x) (y := y) _ ⟨_, rfl, g01, g11.ext ((he.trans eW)), g21⟩ ⟨_, rfl, g02, g12.ext ((he.trans eW)), g22⟩); (try simp only [Act.put, List.setIfInBounds_toArray, List.set_cons_zero, List.set_cons_succ]))
        repeat (first | (apply q_plain rfl; (· intro W eW; go_simp; (first | done | rfl | (rw [if_pos] <;> first | omega | rfl))); (try simp only [Act.put, List.setIfInBounds_toArray, List.set_cons_zero, List.set_cons_succ])) | (refine qg_skip (by rfl) ?_; (try simp only [Act.put, List.setIfInBounds_toArray, List.set_cons_zero, List.set_cons_succ])) | (apply qg_plain (by rfl); (· intro W eW; go_simp; (first | done | rfl | (rw [if_pos] <;> first | omega | rfl))); (try simp only [Act.put, List.setIfInBounds_toArray, List.set_cons_zero, List.set_cons_succ])))
        refine q_nil ?_
        intro w2 e2
        have e3 := he.trans e2
        clear a0 d0 a1 d1 a2 d2
        go_wp2
        · have hxy : eqb x y = false := by have q : (!eqb x y) = true := by assumption
                                           simpa using q
          go_ret
          exact ⟨ret_eqb (by simp [ne_of_get Hx.out Hy.out (eqb_false.1 hxy)]), e3⟩
        · have hxy : eqb x y = true := by have q : (!eqb x y) = false := by assumption
                                          simpa using q
          have hxy : x = y := eqb_true.1 hxy
          go_roundw
          case rel => exact ⟨k + 1, by omega, by go_num, e3, Hal.out.succ Hx.out (by rw [Hy.out, hxy])⟩
          case measure => simp [intOf]; omega
      · have : k = n := by omega
        subst this
        have hal := Lib.hid hal
        go_wp2
        go_ret
        exact ⟨ret_eqb (by simp [eq_of_get Hn.out Hm.out hal.out]), he⟩
  · have hne' : ((n : Int) != (m : Int)) = true := by simp; omega
    go_enter TryG.func20, TryG.ntmps20
    go_wp2
    go_ret
    refine ⟨ret_eqb ?_, Ext.refl w⟩
    have : xs ≠ ys := by rintro rfl; exact hne (Hn.out.symm.trans Hm.out)
    simp [this]

end Go.Sf

/-! The reference's functions on paths compute the plain ones. -/
namespace Go.Sf
open Go Go.RowKit Go.Proofs
theorem ret_b {a b : Bool} (h : a = b) : Ending.returned (.bool a) = .returned (.bool b) := by rw [h]
theorem ret_i {k : IntKind} {a b : Int} (h : a = b) : Ending.returned (.int k a) = .returned (.int k b) := by rw [h]
set_option maxHeartbeats 400000 in
theorem l6In_c (n lo hi : Int) (w : World) : Calls TryG.prog 58 #[.int .i64 n, .int .i64 lo, .int .i64 hi] w (Ret (.bool (inB n lo hi)) w) := by
  go_enter TryG.func58, TryG.ntmps58
  go_wp2
  · have h : lo ≤ n := by assumption
    go_ret
    exact ⟨ret_b (by simp [inB, h]), Ext.refl w⟩
  · have h : n < lo := by assumption
    go_ret
    exact ⟨ret_b (by simp [inB]; omega), Ext.refl w⟩
/-- the pieces of a text between its slashes -/
def CutAt (s : ByteArray) (ps : List ByteArray) (f k : Nat) : Prop := ps.map bl ++ cutG (((bl s).take k).drop f) ((bl s).drop k) = cut (bl s)
theorem drop_get {s : ByteArray} {k : Nat} {c : UInt8} (hlt : k < s.size) (hget : (bl s)[k]? = some c) : (bl s).drop k = c :: (bl s).drop (k + 1) := by
  have hl : k < (bl s).length := by rw [bl_length]; exact hlt
  rw [List.drop_eq_getElem_cons hl]
  rw [List.getElem?_eq_getElem hl] at hget
  rw [Option.some.inj hget]
theorem CutAt.slash {s : ByteArray} {ps : List ByteArray} {f k : Nat} (h : CutAt s ps f k) (hlt : k < s.size) (hget : (bl s)[k]? = some 47) : CutAt s (ps ++ [s.extract f k]) (k + 1) (k + 1) := by
  unfold CutAt at *
  rw [drop_get hlt hget] at h
  rw [← h]
  have e : ((bl s).take (k + 1)).drop (k + 1) = [] := by simp
  simp [cutG, bl_extract, e]
theorem CutAt.on {s : ByteArray} {ps : List ByteArray} {f k : Nat} {c : UInt8} (h : CutAt s ps f k) (hf : f ≤ k) (hlt : k < s.size) (hget : (bl s)[k]? = some c) (hc : c ≠ 47) : CutAt s ps f (k + 1) := by
  unfold CutAt at *
  rw [drop_get hlt hget] at h
  have hl : k < (bl s).length := by rw [bl_length]; exact hlt
  have e : ((bl s).take (k + 1)).drop f = ((bl s).take k).drop f ++ [c] := by
    rw [List.take_add_one, hget, List.drop_append_of_le_length (by simp; omega)]; rfl
  rw [e]
  simpa [cutG, hc] using h
theorem CutAt.done {s : ByteArray} {ps : List ByteArray} {f : Nat} (h : CutAt s ps f s.size) : (ps ++ [s.extract f s.size]).map bl = cut (bl s) := by
  unfold CutAt at h
  have e : (bl s).drop s.size = [] := List.drop_of_length_le (by rw [bl_length]; omega)
  rw [e] at h
  rw [← h]
  simp [cutG, bl_extract]
end Go.Sf
