/- Values are compared: slices by a loop, structs field by field. -/
import Derived.Test.YtfpkllihfcgmaaaDoorT1
namespace Go.Sf
open Go Go.RowKit Go.Proofs

set_option maxHeartbeats 1000000 in
theorem laws_sameInts_c {B B' : Nat} {u v : Value} {xs ys : List Int} (w : World) (h1 : Ints B w u xs) (h2 : Ints B' w v ys) :
    Calls Tryd.prog 34 #[u, v] w (Ret (.bool (eqb xs ys)) w) := by
  obtain ⟨A, c, rfl, hA⟩ := h1
  obtain ⟨A', c', rfl, hA'⟩ := h2
  have hl := hA.2.2.1
  have hl' := hA'.2.2.1
  unfold lim at hl hl'
  generalize hn : xs.length = n at *
  generalize hm : ys.length = m at *
  have Hn := Lib.hid hn; clear hn
  have Hm := Lib.hid hm; clear hm
  have HA := Lib.hid hA; clear hA
  have HA' := Lib.hid hA'; clear hA'
  by_cases hne : n = m
  · subst hne
    go_enter Tryd.func34, Tryd.ntmps34
    go_wp2
    go_loopw [5] (fun i  wr => ∃ k : Nat, k ≤ n ∧ i = .int .i64 k ∧ Ext w wr ∧ Alike xs ys k) (fun i  _ => n - (intOf i).toNat)
    case atStart => exact ⟨0, by omega, rfl, Ext.refl w, Alike.zero _ _⟩
    case round =>
      obtain ⟨k, hk, rfl, he, hal⟩ := hrel
      by_cases hlt : k < n
      · obtain ⟨x, hx⟩ := get_of_lt (l := xs) (k := k) (by rw [Hn.out]; exact hlt)
        obtain ⟨y, hy⟩ := get_of_lt (l := ys) (k := k) (by rw [Hm.out]; exact hlt)
        obtain ⟨b1, o1, rfl, -, -, -, hc01⟩ := Ints.at_ HA.out hx
        obtain ⟨b2, o2, rfl, -, -, -, hc02⟩ := Ints.at_ HA'.out hy
        have a0 := fun W (h : Ext wr W) => hc01 W (he.trans h)
        have d0 := fun W (h : Ext wr W) => hc02 W (he.trans h)
        have Hx := Lib.hid hx; have Hy := Lib.hid hy; have Hal := Lib.hid hal
        clear hc01 hc02 hx hy hal
        go_wp2
        refine wp_region_ext (by kernel_rfl) (by kernel_rfl) ?_
        repeat (first | (apply q_plain rfl; (· intro W eW; go_simp; (first | done | rfl | (rw [if_pos] <;> first | omega | rfl))); (try simp only [Act.put, List.setIfInBounds_toArray, List.set_cons_zero, List.set_cons_succ])) | (refine qg_skip (by rfl) ?_; (try simp only [Act.put, List.setIfInBounds_toArray, List.set_cons_zero, List.set_cons_succ])) | (apply qg_plain (by rfl); (· intro W eW; go_simp; (first | done | rfl | (rw [if_pos] <;> first | omega | rfl))); (try simp only [Act.put, List.setIfInBounds_toArray, List.set_cons_zero, List.set_cons_succ])))
        refine q_nil ?_
        intro w2 e2
        have e3 := he.trans e2
        clear a0 d0
        go_wp2
        · have hxy : (x != y) = true := by assumption
          go_ret
          exact ⟨ret_eqb (by simp [ne_of_get Hx.out Hy.out (by simpa using hxy)]), e3⟩
        · have hxy : (x != y) = false := by assumption
          have hxy : x = y := by simpa using hxy
          go_roundw
          case rel => exact ⟨k + 1, by omega, by go_num, e3, Hal.out.succ Hx.out (by rw [Hy.out, hxy])⟩
          case measure => simp [intOf]; omega
      · have : k = n := by omega
        subst this
        have hal := Lib.hid hal
        go_wp2
        go_ret
        exact ⟨ret_eqb (by simp [eq_of_get Hn.out Hm.out hal.out]), he⟩
  · have hne' : ((n : Int) != (m : Int)) = true := by simp; omega
    go_enter Tryd.func34, Tryd.ntmps34
    go_wp2
    go_ret
    refine ⟨ret_eqb ?_, Ext.refl w⟩
    have : xs ≠ ys := by rintro rfl; exact hne (Hn.out.symm.trans Hm.out)
    simp [this]

set_option maxHeartbeats 1000000 in
theorem spec_l2Same_c {B B' : Nat} {u v : Value} {xs ys : List Int} (w : World) (h1 : Ints B w u xs) (h2 : Ints B' w v ys) :
    Calls Tryd.prog 52 #[u, v] w (Ret (.bool (eqb xs ys)) w) := by
  obtain ⟨A, c, rfl, hA⟩ := h1
  obtain ⟨A', c', rfl, hA'⟩ := h2
  have hl := hA.2.2.1
  have hl' := hA'.2.2.1
  unfold lim at hl hl'
  generalize hn : xs.length = n at *
  generalize hm : ys.length = m at *
  have Hn := Lib.hid hn; clear hn
  have Hm := Lib.hid hm; clear hm
  have HA := Lib.hid hA; clear hA
  have HA' := Lib.hid hA'; clear hA'
  by_cases hne : n = m
  · subst hne
    go_enter Tryd.func52, Tryd.ntmps52
    go_wp2
    go_loopw [5] (fun i  wr => ∃ k : Nat, k ≤ n ∧ i = .int .i64 k ∧ Ext w wr ∧ Alike xs ys k) (fun i  _ => n - (intOf i).toNat)
    case atStart => exact ⟨0, by omega, rfl, Ext.refl w, Alike.zero _ _⟩
    case round =>
      obtain ⟨k, hk, rfl, he, hal⟩ := hrel
      by_cases hlt : k < n
      · obtain ⟨x, hx⟩ := get_of_lt (l := xs) (k := k) (by rw [Hn.out]; exact hlt)
        obtain ⟨y, hy⟩ := get_of_lt (l := ys) (k := k) (by rw [Hm.out]; exact hlt)
        obtain ⟨b1, o1, rfl, -, -, -, hc01⟩ := Ints.at_ HA.out hx
        obtain ⟨b2, o2, rfl, -, -, -, hc02⟩ := Ints.at_ HA'.out hy
        have a0 := fun W (h : Ext wr W) => hc01 W (he.trans h)
        have d0 := fun W (h : Ext wr W) => hc02 W (he.trans h)
        have Hx := Lib.hid hx; have Hy := Lib.hid hy; have Hal := Lib.hid hal
        clear hc01 hc02 hx hy hal
        go_wp2
        refine wp_region_ext (by kernel_rfl) (by kernel_rfl) ?_
        repeat (first | (apply q_plain rfl; (· intro W eW; go_simp; (first | done | rfl | (rw [if_pos] <;> first | omega | rfl))); (try simp only [Act.put, List.setIfInBounds_toArray, List.set_cons_zero, List.set_cons_succ])) | (refine qg_skip (by rfl) ?_; (try simp only [Act.put, List.setIfInBounds_toArray, List.set_cons_zero, List.set_cons_succ])) | (apply qg_plain (by rfl); (· intro W eW; go_simp; (first | done | rfl | (rw [if_pos] <;> first | omega | rfl))); (try simp only [Act.put, List.setIfInBounds_toArray, List.set_cons_zero, List.set_cons_succ])))
        refine q_nil ?_
        intro w2 e2
        have e3 := he.trans e2
        clear a0 d0
        go_wp2
        · have hxy : (x != y) = true := by assumption
          go_ret
          exact ⟨ret_eqb (by simp [ne_of_get Hx.out Hy.out (by simpa using hxy)]), e3⟩
        · have hxy : (x != y) = false := by assumption
          have hxy : x = y := by simpa using hxy
          go_roundw
          case rel => exact ⟨k + 1, by omega, by go_num, e3, Hal.out.succ Hx.out (by rw [Hy.out, hxy])⟩
          case measure => simp [intOf]; omega
      · have : k = n := by omega
        subst this
        have hal := Lib.hid hal
        go_wp2
        go_ret
        exact ⟨ret_eqb (by simp [eq_of_get Hn.out Hm.out hal.out]), he⟩
  · have hne' : ((n : Int) != (m : Int)) = true := by simp; omega
    go_enter Tryd.func52, Tryd.ntmps52
    go_wp2
    go_ret
    refine ⟨ret_eqb ?_, Ext.refl w⟩
    have : xs ≠ ys := by rintro rfl; exact hne (Hn.out.symm.trans Hm.out)
    simp [this]

set_option maxHeartbeats 1000000 in
theorem laws_eqIntS_c {B B' : Nat} {u v : Value} {xs ys : List Int} (w : World) (h1 : Ints B w u xs) (h2 : Ints B' w v ys) :
    Calls Tryd.prog 57 #[u, v] w (Ret (.bool (eqb xs ys)) w) := by
  obtain ⟨A, c, rfl, hA⟩ := h1
  obtain ⟨A', c', rfl, hA'⟩ := h2
  have hl := hA.2.2.1
  have hl' := hA'.2.2.1
  unfold lim at hl hl'
  generalize hn : xs.length = n at *
  generalize hm : ys.length = m at *
  have Hn := Lib.hid hn; clear hn
  have Hm := Lib.hid hm; clear hm
  have HA := Lib.hid hA; clear hA
  have HA' := Lib.hid hA'; clear hA'
  by_cases hne : n = m
  · subst hne
    go_enter Tryd.func57, Tryd.ntmps57
    go_wp2
    go_loopw [5] (fun i  wr => ∃ k : Nat, k ≤ n ∧ i = .int .i64 k ∧ Ext w wr ∧ Alike xs ys k) (fun i  _ => n - (intOf i).toNat)
    case atStart => exact ⟨0, by omega, rfl, Ext.refl w, Alike.zero _ _⟩
    case round =>
      obtain ⟨k, hk, rfl, he, hal⟩ := hrel
      by_cases hlt : k < n
      · obtain ⟨x, hx⟩ := get_of_lt (l := xs) (k := k) (by rw [Hn.out]; exact hlt)
        obtain ⟨y, hy⟩ := get_of_lt (l := ys) (k := k) (by rw [Hm.out]; exact hlt)
        obtain ⟨b1, o1, rfl, -, -, -, hc01⟩ := Ints.at_ HA.out hx
        obtain ⟨b2, o2, rfl, -, -, -, hc02⟩ := Ints.at_ HA'.out hy
        have a0 := fun W (h : Ext wr W) => hc01 W (he.trans h)
        have d0 := fun W (h : Ext wr W) => hc02 W (he.trans h)
        have Hx := Lib.hid hx; have Hy := Lib.hid hy; have Hal := Lib.hid hal
        clear hc01 hc02 hx hy hal
        go_wp2
        refine wp_region_ext (by kernel_rfl) (by kernel_rfl) ?_
        repeat (first | (apply q_plain rfl; (· intro W eW; go_simp; (first | done | rfl | (rw [if_pos] <;> first | omega | rfl))); (try simp only [Act.put, List.setIfInBounds_toArray, List.set_cons_zero, List.set_cons_succ])) | (refine qg_skip (by rfl) ?_; (try simp only [Act.put, List.setIfInBounds_toArray, List.set_cons_zero, List.set_cons_succ])) | (apply qg_plain (by rfl); (· intro W eW; go_simp; (first | done | rfl | (rw [if_pos] <;> first | omega | rfl))); (try simp only [Act.put, List.setIfInBounds_toArray, List.set_cons_zero, List.set_cons_succ])))
        refine q_nil ?_
        intro w2 e2
        have e3 := he.trans e2
        clear a0 d0
        go_wp2
        · have hxy : (x != y) = true := by assumption
          go_ret
          exact ⟨ret_eqb (by simp [ne_of_get Hx.out Hy.out (by simpa using hxy)]), e3⟩
        · have hxy : (x != y) = false := by assumption
          have hxy : x = y := by simpa using hxy
          go_roundw
          case rel => exact ⟨k + 1, by omega, by go_num, e3, Hal.out.succ Hx.out (by rw [Hy.out, hxy])⟩
          case measure => simp [intOf]; omega
      · have : k = n := by omega
        subst this
        have hal := Lib.hid hal
        go_wp2
        go_ret
        exact ⟨ret_eqb (by simp [eq_of_get Hn.out Hm.out hal.out]), he⟩
  · have hne' : ((n : Int) != (m : Int)) = true := by simp; omega
    go_enter Tryd.func57, Tryd.ntmps57
    go_wp2
    go_ret
    refine ⟨ret_eqb ?_, Ext.refl w⟩
    have : xs ≠ ys := by rintro rfl; exact hne (Hn.out.symm.trans Hm.out)
    simp [this]

set_option maxHeartbeats 1000000 in
theorem slices_Equal_int_c {B B' : Nat} {u v : Value} {xs ys : List Int} (w : World) (h1 : Ints B w u xs) (h2 : Ints B' w v ys) :
    Calls Tryd.prog 63 #[u, v] w (Ret (.bool (eqb xs ys)) w) := by
  obtain ⟨A, c, rfl, hA⟩ := h1
  obtain ⟨A', c', rfl, hA'⟩ := h2
  have hl := hA.2.2.1
  have hl' := hA'.2.2.1
  unfold lim at hl hl'
  generalize hn : xs.length = n at *
  generalize hm : ys.length = m at *
  have Hn := Lib.hid hn; clear hn
  have Hm := Lib.hid hm; clear hm
  have HA := Lib.hid hA; clear hA
  have HA' := Lib.hid hA'; clear hA'
  by_cases hne : n = m
  · subst hne
    go_enter Tryd.func63, Tryd.ntmps63
    go_wp2
    go_loopw [13] (fun i  wr => ∃ k : Nat, k ≤ n ∧ i = .int .i64 k ∧ Ext w wr ∧ Alike xs ys k) (fun i  _ => n - (intOf i).toNat)
    case atStart => exact ⟨0, by omega, rfl, Ext.refl w, Alike.zero _ _⟩
    case round =>
      obtain ⟨k, hk, rfl, he, hal⟩ := hrel
      by_cases hlt : k < n
      · obtain ⟨x, hx⟩ := get_of_lt (l := xs) (k := k) (by rw [Hn.out]; exact hlt)
        obtain ⟨y, hy⟩ := get_of_lt (l := ys) (k := k) (by rw [Hm.out]; exact hlt)
        obtain ⟨b1, o1, rfl, -, -, -, hc01⟩ := Ints.at_ HA.out hx
        obtain ⟨b2, o2, rfl, -, -, -, hc02⟩ := Ints.at_ HA'.out hy
        have a0 := fun W (h : Ext wr W) => hc01 W (he.trans h)
        have d0 := fun W (h : Ext wr W) => hc02 W (he.trans h)
        have Hx := Lib.hid hx; have Hy := Lib.hid hy; have Hal := Lib.hid hal
        clear hc01 hc02 hx hy hal
        go_wp2
        refine wp_region_ext (by kernel_rfl) (by kernel_rfl) ?_
        repeat (first | (apply q_plain rfl; (· intro W eW; go_simp; (first | done | rfl | (rw [if_pos] <;> first | omega | rfl))); (try simp only [Act.put, List.setIfInBounds_toArray, List.set_cons_zero, List.set_cons_succ])) | (refine qg_skip (by rfl) ?_; (try simp only [Act.put, List.setIfInBounds_toArray, List.set_cons_zero, List.set_cons_succ])) | (apply qg_plain (by rfl); (· intro W eW; go_simp; (first | done | rfl | (rw [if_pos] <;> first | omega | rfl))); (try simp only [Act.put, List.setIfInBounds_toArray, List.set_cons_zero, List.set_cons_succ])))
        refine q_nil ?_
        intro w2 e2
        have e3 := he.trans e2
        clear a0 d0
        go_wp2
        · have hxy : (x != y) = true := by assumption
          go_ret
          exact ⟨ret_eqb (by simp [ne_of_get Hx.out Hy.out (by simpa using hxy)]), e3⟩
        · have hxy : (x != y) = false := by assumption
          have hxy : x = y := by simpa using hxy
          go_roundw
          case rel => exact ⟨k + 1, by omega, by go_num, e3, Hal.out.succ Hx.out (by rw [Hy.out, hxy])⟩
          case measure => simp [intOf]; omega
      · have : k = n := by omega
        subst this
        have hal := Lib.hid hal
        go_wp2
        go_ret
        exact ⟨ret_eqb (by simp [eq_of_get Hn.out Hm.out hal.out]), he⟩
  · have hne' : ((n : Int) != (m : Int)) = true := by simp; omega
    go_enter Tryd.func63, Tryd.ntmps63
    go_wp2
    go_ret
    refine ⟨ret_eqb ?_, Ext.refl w⟩
    have : xs ≠ ys := by rintro rfl; exact hne (Hn.out.symm.trans Hm.out)
    simp [this]



set_option maxHeartbeats 1000000 in
theorem laws_sameItem_c {B B' : Nat} {u v : Value} {x y : It} (w : World) (h1 : ItV B w u x) (h2 : ItV B' w v y) :
    Calls Tryd.prog 15 #[u, v] w (Ret (.bool (eqb x y)) w) := by
  obtain ⟨xpath, xdir, xids⟩ := x
  obtain ⟨ypath, ydir, yids⟩ := y
  obtain ⟨u2x, rfl, g0x, g2x⟩ := h1
  obtain ⟨u2y, rfl, g0y, g2y⟩ := h2
  have G0x := Lib.hid g0x; clear g0x
  have G0y := Lib.hid g0y; clear g0y
  have G2x := Lib.hid g2x; clear g2x
  have G2y := Lib.hid g2y; clear g2y
  go_enter Tryd.func15, Tryd.ntmps15
  go_wp2_with (first | (go_at_call 34; refine (laws_sameInts_c _ (Ints.ext G2x.out (by first | assumption | go_simp)) (Ints.ext G2y.out (by first | assumption | go_simp))).mono ?_; rintro e w' ⟨rfl, he'⟩; have he := Ext.trans (a := w) (by first | assumption | go_simp) he'; clear he'))
  all_goals go_ret
  all_goals simp only [bytes_ne_iff] at *
  all_goals refine ⟨ret_eqb ?_, by first | assumption | go_simp⟩
  all_goals simp only [It.mk.injEq]
  all_goals (try simp_all [bytes_inj, eqb_iff, eqb_false])

set_option maxHeartbeats 1000000 in
theorem spec_l13Same_c {B B' : Nat} {u v : Value} {x y : It} (w : World) (h1 : ItV B w u x) (h2 : ItV B' w v y) :
    Calls Tryd.prog 31 #[u, v] w (Ret (.bool (eqb x y)) w) := by
  obtain ⟨xpath, xdir, xids⟩ := x
  obtain ⟨ypath, ydir, yids⟩ := y
  obtain ⟨u2x, rfl, g0x, g2x⟩ := h1
  obtain ⟨u2y, rfl, g0y, g2y⟩ := h2
  have G0x := Lib.hid g0x; clear g0x
  have G0y := Lib.hid g0y; clear g0y
  have G2x := Lib.hid g2x; clear g2x
  have G2y := Lib.hid g2y; clear g2y
  go_enter Tryd.func31, Tryd.ntmps31
  go_wp2_with (first | (go_at_call 52; refine (spec_l2Same_c _ (Ints.ext G2x.out (by first | assumption | go_simp)) (Ints.ext G2y.out (by first | assumption | go_simp))).mono ?_; rintro e w' ⟨rfl, he'⟩; have he := Ext.trans (a := w) (by first | assumption | go_simp) he'; clear he'))
  all_goals go_ret
  all_goals simp only [bytes_ne_iff] at *
  all_goals refine ⟨ret_eqb ?_, by first | assumption | go_simp⟩
  all_goals simp only [It.mk.injEq]
  all_goals (try simp_all [bytes_inj, eqb_iff, eqb_false])

set_option maxHeartbeats 1000000 in
theorem laws_eqItem_c {B B' : Nat} {u v : Value} {x y : It} (w : World) (h1 : ItV B w u x) (h2 : ItV B' w v y) :
    Calls Tryd.prog 38 #[u, v] w (Ret (.bool (eqb x y)) w) := by
  obtain ⟨xpath, xdir, xids⟩ := x
  obtain ⟨ypath, ydir, yids⟩ := y
  obtain ⟨u2x, rfl, g0x, g2x⟩ := h1
  obtain ⟨u2y, rfl, g0y, g2y⟩ := h2
  have G0x := Lib.hid g0x; clear g0x
  have G0y := Lib.hid g0y; clear g0y
  have G2x := Lib.hid g2x; clear g2x
  have G2y := Lib.hid g2y; clear g2y
  go_enter Tryd.func38, Tryd.ntmps38
  go_wp2_with (first | (go_at_call 57; refine (laws_eqIntS_c _ (Ints.ext G2x.out (by first | assumption | go_simp)) (Ints.ext G2y.out (by first | assumption | go_simp))).mono ?_; rintro e w' ⟨rfl, he'⟩; have he := Ext.trans (a := w) (by first | assumption | go_simp) he'; clear he'))
  all_goals go_ret
  all_goals simp only [bytes_ne_iff] at *
  all_goals refine ⟨ret_eqb ?_, by first | assumption | go_simp⟩
  all_goals simp only [It.mk.injEq]
  all_goals (try simp_all [bytes_inj, eqb_iff, eqb_false])

set_option maxHeartbeats 1000000 in
theorem impl_itemEqual_c {B B' : Nat} {u v : Value} {x y : It} (w : World) (h1 : ItV B w u x) (h2 : ItV B' w v y) :
    Calls Tryd.prog 48 #[u, v] w (Ret (.bool (eqb x y)) w) := by
  obtain ⟨xpath, xdir, xids⟩ := x
  obtain ⟨ypath, ydir, yids⟩ := y
  obtain ⟨u2x, rfl, g0x, g2x⟩ := h1
  obtain ⟨u2y, rfl, g0y, g2y⟩ := h2
  have G0x := Lib.hid g0x; clear g0x
  have G0y := Lib.hid g0y; clear g0y
  have G2x := Lib.hid g2x; clear g2x
  have G2y := Lib.hid g2y; clear g2y
  go_enter Tryd.func48, Tryd.ntmps48
  go_wp2_with (first | (go_at_call 63; refine (slices_Equal_int_c _ (Ints.ext G2x.out (by first | assumption | go_simp)) (Ints.ext G2y.out (by first | assumption | go_simp))).mono ?_; rintro e w' ⟨rfl, he'⟩; have he := Ext.trans (a := w) (by first | assumption | go_simp) he'; clear he'))
  all_goals go_ret
  all_goals simp only [bytes_ne_iff] at *
  all_goals refine ⟨ret_eqb ?_, by first | assumption | go_simp⟩
  all_goals simp only [It.mk.injEq]
  all_goals (try simp_all [bytes_inj, eqb_iff, eqb_false])

set_option maxHeartbeats 1000000 in
theorem laws_sameChange_c {B B' : Nat} {u v : Value} {x y : Ch} (w : World) (h1 : ChV B w u x) (h2 : ChV B' w v y) :
    Calls Tryd.prog 32 #[u, v] w (Ret (.bool (eqb x y)) w) := by
  obtain ⟨xkind, ⟨xitem_path, xitem_dir, xitem_ids⟩⟩ := x
  obtain ⟨ykind, ⟨yitem_path, yitem_dir, yitem_ids⟩⟩ := y
  obtain ⟨u3x, rfl, g0x, g1x, g3x⟩ := h1
  obtain ⟨u3y, rfl, g0y, g1y, g3y⟩ := h2
  have G0x := Lib.hid g0x; clear g0x
  have G0y := Lib.hid g0y; clear g0y
  have G1x := Lib.hid g1x; clear g1x
  have G1y := Lib.hid g1y; clear g1y
  have G3x := Lib.hid g3x; clear g3x
  have G3y := Lib.hid g3y; clear g3y
  go_enter Tryd.func32, Tryd.ntmps32
  go_wp2_with (first | (go_at_call 15; refine (laws_sameItem_c _ ⟨_, rfl, G1x.out, (Ints.ext G3x.out (by first | assumption | go_simp))⟩ ⟨_, rfl, G1y.out, (Ints.ext G3y.out (by first | assumption | go_simp))⟩).mono ?_; rintro e w' ⟨rfl, he'⟩; have he := Ext.trans (a := w) (by first | assumption | go_simp) he'; clear he'))
  all_goals go_ret
  all_goals simp only [bytes_ne_iff] at *
  all_goals refine ⟨ret_eqb ?_, by first | assumption | go_simp⟩
  all_goals simp only [Ch.mk.injEq, It.mk.injEq]
  all_goals (try simp_all [bytes_inj, eqb_iff, eqb_false])

set_option maxHeartbeats 1000000 in
theorem laws_eqChange_c {B B' : Nat} {u v : Value} {x y : Ch} (w : World) (h1 : ChV B w u x) (h2 : ChV B' w v y) :
    Calls Tryd.prog 37 #[u, v] w (Ret (.bool (eqb x y)) w) := by
  obtain ⟨xkind, ⟨xitem_path, xitem_dir, xitem_ids⟩⟩ := x
  obtain ⟨ykind, ⟨yitem_path, yitem_dir, yitem_ids⟩⟩ := y
  obtain ⟨u3x, rfl, g0x, g1x, g3x⟩ := h1
  obtain ⟨u3y, rfl, g0y, g1y, g3y⟩ := h2
  have G0x := Lib.hid g0x; clear g0x
  have G0y := Lib.hid g0y; clear g0y
  have G1x := Lib.hid g1x; clear g1x
  have G1y := Lib.hid g1y; clear g1y
  have G3x := Lib.hid g3x; clear g3x
  have G3y := Lib.hid g3y; clear g3y
  go_enter Tryd.func37, Tryd.ntmps37
  go_wp2_with (first | (go_at_call 38; refine (laws_eqItem_c _ ⟨_, rfl, G1x.out, (Ints.ext G3x.out (by first | assumption | go_simp))⟩ ⟨_, rfl, G1y.out, (Ints.ext G3y.out (by first | assumption | go_simp))⟩).mono ?_; rintro e w' ⟨rfl, he'⟩; have he := Ext.trans (a := w) (by first | assumption | go_simp) he'; clear he'))
  all_goals go_ret
  all_goals simp only [bytes_ne_iff] at *
  all_goals refine ⟨ret_eqb ?_, by first | assumption | go_simp⟩
  all_goals simp only [Ch.mk.injEq, It.mk.injEq]
  all_goals (try simp_all [bytes_inj, eqb_iff, eqb_false])





set_option maxHeartbeats 1000000 in
theorem laws_sameTree_c {B B' : Nat} {u v : Value} {xs ys : List It} (w : World) (h1 : Its B w u xs) (h2 : Its B' w v ys) :
    Calls Tryd.prog 13 #[u, v] w (Ret (.bool (eqb xs ys)) w) := by
  obtain ⟨A, c, rfl, hA⟩ := h1
  obtain ⟨A', c', rfl, hA'⟩ := h2
  have hl := hA.2.2.1
  have hl' := hA'.2.2.1
  unfold lim at hl hl'
  generalize hn : xs.length = n at *
  generalize hm : ys.length = m at *
  have Hn := Lib.hid hn; clear hn
  have Hm := Lib.hid hm; clear hm
  have HA := Lib.hid hA; clear hA
  have HA' := Lib.hid hA'; clear hA'
  by_cases hne : n = m
  · subst hne
    go_enter Tryd.func13, Tryd.ntmps13
    go_wp2
    go_loopw [5] (fun i  wr => ∃ k : Nat, k ≤ n ∧ i = .int .i64 k ∧ Ext w wr ∧ Alike xs ys k) (fun i  _ => n - (intOf i).toNat)
    case atStart => exact ⟨0, by omega, rfl, Ext.refl w, Alike.zero _ _⟩
    case round =>
      obtain ⟨k, hk, rfl, he, hal⟩ := hrel
      by_cases hlt : k < n
      · obtain ⟨x, hx⟩ := get_of_lt (l := xs) (k := k) (by rw [Hn.out]; exact hlt)
        obtain ⟨y, hy⟩ := get_of_lt (l := ys) (k := k) (by rw [Hm.out]; exact hlt)
        obtain ⟨b1, o1, u21, rfl, -, -, g01, g21, hc01, hc11, hc21⟩ := Its.at_ HA.out hx
        obtain ⟨b2, o2, u22, rfl, -, -, g02, g22, hc02, hc12, hc22⟩ := Its.at_ HA'.out hy
        have a0 := fun W (h : Ext wr W) => hc01 W (he.trans h)
        have d0 := fun W (h : Ext wr W) => hc02 W (he.trans h)
        have a1 := fun W (h : Ext wr W) => hc11 W (he.trans h)
        have d1 := fun W (h : Ext wr W) => hc12 W (he.trans h)
        have a2 := fun W (h : Ext wr W) => hc21 W (he.trans h)
        have d2 := fun W (h : Ext wr W) => hc22 W (he.trans h)
        have Hx := Lib.hid hx; have Hy := Lib.hid hy; have Hal := Lib.hid hal
        clear hc01 hc02 hc11 hc12 hc21 hc22 hx hy hal
        go_wp2
        refine wp_region_ext (by kernel_rfl) (by kernel_rfl) ?_
        repeat (first | (apply q_plain rfl; (· intro W eW; go_simp; (first | done | rfl | (rw [if_pos] <;> first | omega | rfl))); (try simp only [Act.put, List.setIfInBounds_toArray, List.set_cons_zero, List.set_cons_succ])) | (refine qg_skip (by rfl) ?_; (try simp only [Act.put, List.setIfInBounds_toArray, List.set_cons_zero, List.set_cons_succ])) | (apply qg_plain (by rfl); (· intro W eW; go_simp; (first | done | rfl | (rw [if_pos] <;> first | omega | rfl))); (try simp only [Act.put, List.setIfInBounds_toArray, List.set_cons_zero, List.set_cons_succ])))
        ((first | apply q_call rfl | apply qg_call (by rfl)); (· intro W eW; go_simp; (first | done | (constructor <;> rfl))); (· intro W eW; exact laws_sameItem_c (x := x) (y := y) _ ⟨_, rfl, g01, g21.ext ((he.trans eW))⟩ ⟨_, rfl, g02, g22.ext ((he.trans eW))⟩); (try simp only [Act.put, List.setIfInBounds_toArray, List.set_cons_zero, List.set_cons_succ]))
        repeat (first | (apply q_plain rfl; (· intro W eW; go_simp; (first | done | rfl | (rw [if_pos] <;> first | omega | rfl))); (try simp only [Act.put, List.setIfInBounds_toArray, List.set_cons_zero, List.set_cons_succ])) | (refine qg_skip (by rfl) ?_; (try simp only [Act.put, List.setIfInBounds_toArray, List.set_cons_zero, List.set_cons_succ])) | (apply qg_plain (by rfl); (· intro W eW; go_simp; (first | done | rfl | (rw [if_pos] <;> first | omega | rfl))); (try simp only [Act.put, List.setIfInBounds_toArray, List.set_cons_zero, List.set_cons_succ])))
        refine q_nil ?_
        intro w2 e2
        have e3 := he.trans e2
        clear a0 d0 a1 d1 a2 d2
        go_wp2
        · have hxy : eqb x y = false := by have q : (!eqb x y) = true := by assumption
                                           simpa using q
          go_ret
          exact ⟨ret_eqb (by simp [ne_of_get Hx.out Hy.out (eqb_false.1 hxy)]), e3⟩
        · have hxy : eqb x y = true := by have q : (!eqb x y) = false := by assumption
                                          simpa using q
          have hxy : x = y := eqb_true.1 hxy
          go_roundw
          case rel => exact ⟨k + 1, by omega, by go_num, e3, Hal.out.succ Hx.out (by rw [Hy.out, hxy])⟩
          case measure => simp [intOf]; omega
      · have : k = n := by omega
        subst this
        have hal := Lib.hid hal
        go_wp2
        go_ret
        exact ⟨ret_eqb (by simp [eq_of_get Hn.out Hm.out hal.out]), he⟩
  · have hne' : ((n : Int) != (m : Int)) = true := by simp; omega
    go_enter Tryd.func13, Tryd.ntmps13
    go_wp2
    go_ret
    refine ⟨ret_eqb ?_, Ext.refl w⟩
    have : xs ≠ ys := by rintro rfl; exact hne (Hn.out.symm.trans Hm.out)
    simp [this]

set_option maxHeartbeats 1000000 in
theorem laws_sameChanges_c {B B' : Nat} {u v : Value} {xs ys : List Ch} (w : World) (h1 : Chs B w u xs) (h2 : Chs B' w v ys) :
    Calls Tryd.prog 11 #[u, v] w (Ret (.bool (eqb xs ys)) w) := by
  obtain ⟨A, c, rfl, hA⟩ := h1
  obtain ⟨A', c', rfl, hA'⟩ := h2
  have hl := hA.2.2.1
  have hl' := hA'.2.2.1
  unfold lim at hl hl'
  generalize hn : xs.length = n at *
  generalize hm : ys.length = m at *
  have Hn := Lib.hid hn; clear hn
  have Hm := Lib.hid hm; clear hm
  have HA := Lib.hid hA; clear hA
  have HA' := Lib.hid hA'; clear hA'
  by_cases hne : n = m
  · subst hne
    go_enter Tryd.func11, Tryd.ntmps11
    go_wp2
    go_loopw [5] (fun i  wr => ∃ k : Nat, k ≤ n ∧ i = .int .i64 k ∧ Ext w wr ∧ Alike xs ys k) (fun i  _ => n - (intOf i).toNat)
    case atStart => exact ⟨0, by omega, rfl, Ext.refl w, Alike.zero _ _⟩
    case round =>
      obtain ⟨k, hk, rfl, he, hal⟩ := hrel
      by_cases hlt : k < n
      · obtain ⟨x, hx⟩ := get_of_lt (l := xs) (k := k) (by rw [Hn.out]; exact hlt)
        obtain ⟨y, hy⟩ := get_of_lt (l := ys) (k := k) (by rw [Hm.out]; exact hlt)
        obtain ⟨b1, o1, u31, rfl, -, -, g01, g11, g31, hc01, hc11, hc21, hc31⟩ := Chs.at_ HA.out hx
        obtain ⟨b2, o2, u32, rfl, -, -, g02, g12, g32, hc02, hc12, hc22, hc32⟩ := Chs.at_ HA'.out hy
        have a0 := fun W (h : Ext wr W) => hc01 W (he.trans h)
        have d0 := fun W (h : Ext wr W) => hc02 W (he.trans h)
        have a1 := fun W (h : Ext wr W) => hc11 W (he.trans h)
        have d1 := fun W (h : Ext wr W) => hc12 W (he.trans h)
        have a2 := fun W (h : Ext wr W) => hc21 W (he.trans h)
        have d2 := fun W (h : Ext wr W) => hc22 W (he.trans h)
        have a3 := fun W (h : Ext wr W) => hc31 W (he.trans h)
        have d3 := fun W (h : Ext wr W) => hc32 W (he.trans h)
        have Hx := Lib.hid hx; have Hy := Lib.hid hy; have Hal := Lib.hid hal
        clear hc01 hc02 hc11 hc12 hc21 hc22 hc31 hc32 hx hy hal
        go_wp2
        refine wp_region_ext (by kernel_rfl) (by kernel_rfl) ?_
        repeat (first | (apply q_plain rfl; (· intro W eW; go_simp; (first | done | rfl | (rw [if_pos] <;> first | omega | rfl))); (try simp only [Act.put, List.setIfInBounds_toArray, List.set_cons_zero, List.set_cons_succ])) | (refine qg_skip (by rfl) ?_; (try simp only [Act.put, List.setIfInBounds_toArray, List.set_cons_zero, List.set_cons_succ])) | (apply qg_plain (by rfl); (· intro W eW; go_simp; (first | done | rfl | (rw [if_pos] <;> first | omega | rfl))); (try simp only [Act.put, List.setIfInBounds_toArray, List.set_cons_zero, List.set_cons_succ])))
        ((first | apply q_call rfl | apply qg_call (by rfl)); (· intro W eW; go_simp; (first | done | (constructor <;> rfl))); (· intro W eW; exact laws_sameChange_c (x := x) (y := y) _ ⟨_, rfl, g01, g11, g31.ext ((he.trans eW))⟩ ⟨_, rfl, g02, g12, g32.ext ((he.trans eW))⟩); (try simp only [Act.put, List.setIfInBounds_toArray, List.set_cons_zero, List.set_cons_succ]))
        repeat (first | (apply q_plain rfl; (· intro W eW; go_simp; (first | done | rfl | (rw [if_pos] <;> first | omega | rfl))); (try simp only [Act.put, List.setIfInBounds_toArray, List.set_cons_zero, List.set_cons_succ])) | (refine qg_skip (by rfl) ?_; (try simp only [Act.put, List.setIfInBounds_toArray, List.set_cons_zero, List.set_cons_succ])) | (apply qg_plain (by rfl); (· intro W eW; go_simp; (first | done | rfl | (rw [if_pos] <;> first | omega | rfl))); (try simp only [Act.put, List.setIfInBounds_toArray, List.set_cons_zero, List.set_cons_succ])))
        refine q_nil ?_
        intro w2 e2
        have e3 := he.trans e2
        clear a0 d0 a1 d1 a2 d2 a3 d3
        go_wp2
        · have hxy : eqb x y = false := by have q : (!eqb x y) = true := by assumption
                                           simpa using q
          go_ret
          exact ⟨ret_eqb (by simp [ne_of_get Hx.out Hy.out (eqb_false.1 hxy)]), e3⟩
        · have hxy : eqb x y = true := by have q : (!eqb x y) = false := by assumption
                                          simpa using q
          have hxy : x = y := eqb_true.1 hxy
          go_roundw
          case rel => exact ⟨k + 1, by omega, by go_num, e3, Hal.out.succ Hx.out (by rw [Hy.out, hxy])⟩
          case measure => simp [intOf]; omega
      · have : k = n := by omega
        subst this
        have hal := Lib.hid hal
        go_wp2
        go_ret
        exact ⟨ret_eqb (by simp [eq_of_get Hn.out Hm.out hal.out]), he⟩
  · have hne' : ((n : Int) != (m : Int)) = true := by simp; omega
    go_enter Tryd.func11, Tryd.ntmps11
    go_wp2
    go_ret
    refine ⟨ret_eqb ?_, Ext.refl w⟩
    have : xs ≠ ys := by rintro rfl; exact hne (Hn.out.symm.trans Hm.out)
    simp [this]



set_option maxHeartbeats 1000000 in
theorem laws_eqItemS_c {B B' : Nat} {u v : Value} {xs ys : List It} (w : World) (h1 : Its B w u xs) (h2 : Its B' w v ys) :
    Calls Tryd.prog 19 #[u, v] w (Ret (.bool (eqb xs ys)) w) := by
  obtain ⟨A, c, rfl, hA⟩ := h1
  obtain ⟨A', c', rfl, hA'⟩ := h2
  have hl := hA.2.2.1
  have hl' := hA'.2.2.1
  unfold lim at hl hl'
  generalize hn : xs.length = n at *
  generalize hm : ys.length = m at *
  have Hn := Lib.hid hn; clear hn
  have Hm := Lib.hid hm; clear hm
  have HA := Lib.hid hA; clear hA
  have HA' := Lib.hid hA'; clear hA'
  by_cases hne : n = m
  · subst hne
    go_enter Tryd.func19, Tryd.ntmps19
    go_wp2
    go_loopw [5] (fun i  wr => ∃ k : Nat, k ≤ n ∧ i = .int .i64 k ∧ Ext w wr ∧ Alike xs ys k) (fun i  _ => n - (intOf i).toNat)
    case atStart => exact ⟨0, by omega, rfl, Ext.refl w, Alike.zero _ _⟩
    case round =>
      obtain ⟨k, hk, rfl, he, hal⟩ := hrel
      by_cases hlt : k < n
      · obtain ⟨x, hx⟩ := get_of_lt (l := xs) (k := k) (by rw [Hn.out]; exact hlt)
        obtain ⟨y, hy⟩ := get_of_lt (l := ys) (k := k) (by rw [Hm.out]; exact hlt)
        obtain ⟨b1, o1, u21, rfl, -, -, g01, g21, hc01, hc11, hc21⟩ := Its.at_ HA.out hx
        obtain ⟨b2, o2, u22, rfl, -, -, g02, g22, hc02, hc12, hc22⟩ := Its.at_ HA'.out hy
        have a0 := fun W (h : Ext wr W) => hc01 W (he.trans h)
        have d0 := fun W (h : Ext wr W) => hc02 W (he.trans h)
        have a1 := fun W (h : Ext wr W) => hc11 W (he.trans h)
        have d1 := fun W (h : Ext wr W) => hc12 W (he.trans h)
        have a2 := fun W (h : Ext wr W) => hc21 W (he.trans h)
        have d2 := fun W (h : Ext wr W) => hc22 W (he.trans h)
        have Hx := Lib.hid hx; have Hy := Lib.hid hy; have Hal := Lib.hid hal
        clear hc01 hc02 hc11 hc12 hc21 hc22 hx hy hal
        go_wp2
        refine wp_region_ext (by kernel_rfl) (by kernel_rfl) ?_
        repeat (first | (apply q_plain rfl; (· intro W eW; go_simp; (first | done | rfl | (rw [if_pos] <;> first | omega | rfl))); (try simp only [Act.put, List.setIfInBounds_toArray, List.set_cons_zero, List.set_cons_succ])) | (refine qg_skip (by rfl) ?_; (try simp only [Act.put, List.setIfInBounds_toArray, List.set_cons_zero, List.set_cons_succ])) | (apply qg_plain (by rfl); (· intro W eW; go_simp; (first | done | rfl | (rw [if_pos] <;> first | omega | rfl))); (try simp only [Act.put, List.setIfInBounds_toArray, List.set_cons_zero, List.set_cons_succ])))
        ((first | apply q_call rfl | apply qg_call (by rfl)); (· intro W eW; go_simp; (first | done | (constructor <;> rfl))); (· intro W eW; exact laws_eqItem_c (x := x) (y := y) _ ⟨_, rfl, g01, g21.ext ((he.trans eW))⟩ ⟨_, rfl, g02, g22.ext ((he.trans eW))⟩); (try simp only [Act.put, List.setIfInBounds_toArray, List.set_cons_zero, List.set_cons_succ]))
        repeat (first | (apply q_plain rfl; (· intro W eW; go_simp; (first | done | rfl | (rw [if_pos] <;> first | omega | rfl))); (try simp only [Act.put, List.setIfInBounds_toArray, List.set_cons_zero, List.set_cons_succ])) | (refine qg_skip (by rfl) ?_; (try simp only [Act.put, List.setIfInBounds_toArray, List.set_cons_zero, List.set_cons_succ])) | (apply qg_plain (by rfl); (· intro W eW; go_simp; (first | done | rfl | (rw [if_pos] <;> first | omega | rfl))); (try simp only [Act.put, List.setIfInBounds_toArray, List.set_cons_zero, List.set_cons_succ])))
        refine q_nil ?_
        intro w2 e2
        have e3 := he.trans e2
        clear a0 d0 a1 d1 a2 d2
        go_wp2
        · have hxy : eqb x y = false := by have q : (!eqb x y) = true := by assumption
                                           simpa using q
          go_ret
          exact ⟨ret_eqb (by simp [ne_of_get Hx.out Hy.out (eqb_false.1 hxy)]), e3⟩
        · have hxy : eqb x y = true := by have q : (!eqb x y) = false := by assumption
                                          simpa using q
          have hxy : x = y := eqb_true.1 hxy
          go_roundw
          case rel => exact ⟨k + 1, by omega, by go_num, e3, Hal.out.succ Hx.out (by rw [Hy.out, hxy])⟩
          case measure => simp [intOf]; omega
      · have : k = n := by omega
        subst this
        have hal := Lib.hid hal
        go_wp2
        go_ret
        exact ⟨ret_eqb (by simp [eq_of_get Hn.out Hm.out hal.out]), he⟩
  · have hne' : ((n : Int) != (m : Int)) = true := by simp; omega
    go_enter Tryd.func19, Tryd.ntmps19
    go_wp2
    go_ret
    refine ⟨ret_eqb ?_, Ext.refl w⟩
    have : xs ≠ ys := by rintro rfl; exact hne (Hn.out.symm.trans Hm.out)
    simp [this]

set_option maxHeartbeats 1000000 in
theorem laws_eqChangeS_c {B B' : Nat} {u v : Value} {xs ys : List Ch} (w : World) (h1 : Chs B w u xs) (h2 : Chs B' w v ys) :
    Calls Tryd.prog 18 #[u, v] w (Ret (.bool (eqb xs ys)) w) := by
  obtain ⟨A, c, rfl, hA⟩ := h1
  obtain ⟨A', c', rfl, hA'⟩ := h2
  have hl := hA.2.2.1
  have hl' := hA'.2.2.1
  unfold lim at hl hl'
  generalize hn : xs.length = n at *
  generalize hm : ys.length = m at *
  have Hn := Lib.hid hn; clear hn
  have Hm := Lib.hid hm; clear hm
  have HA := Lib.hid hA; clear hA
  have HA' := Lib.hid hA'; clear hA'
  by_cases hne : n = m
  · subst hne
    go_enter Tryd.func18, Tryd.ntmps18
    go_wp2
    go_loopw [5] (fun i  wr => ∃ k : Nat, k ≤ n ∧ i = .int .i64 k ∧ Ext w wr ∧ Alike xs ys k) (fun i  _ => n - (intOf i).toNat)
    case atStart => exact ⟨0, by omega, rfl, Ext.refl w, Alike.zero _ _⟩
    case round =>
      obtain ⟨k, hk, rfl, he, hal⟩ := hrel
      by_cases hlt : k < n
      · obtain ⟨x, hx⟩ := get_of_lt (l := xs) (k := k) (by rw [Hn.out]; exact hlt)
        obtain ⟨y, hy⟩ := get_of_lt (l := ys) (k := k) (by rw [Hm.out]; exact hlt)
        obtain ⟨b1, o1, u31, rfl, -, -, g01, g11, g31, hc01, hc11, hc21, hc31⟩ := Chs.at_ HA.out hx
        obtain ⟨b2, o2, u32, rfl, -, -, g02, g12, g32, hc02, hc12, hc22, hc32⟩ := Chs.at_ HA'.out hy
        have a0 := fun W (h : Ext wr W) => hc01 W (he.trans h)
        have d0 := fun W (h : Ext wr W) => hc02 W (he.trans h)
        have a1 := fun W (h : Ext wr W) => hc11 W (he.trans h)
        have d1 := fun W (h : Ext wr W) => hc12 W (he.trans h)
        have a2 := fun W (h : Ext wr W) => hc21 W (he.trans h)
        have d2 := fun W (h : Ext wr W) => hc22 W (he.trans h)
        have a3 := fun W (h : Ext wr W) => hc31 W (he.trans h)
        have d3 := fun W (h : Ext wr W) => hc32 W (he.trans h)
        have Hx := Lib.hid hx; have Hy := Lib.hid hy; have Hal := Lib.hid hal
        clear hc01 hc02 hc11 hc12 hc21 hc22 hc31 hc32 hx hy hal
        go_wp2
        refine wp_region_ext (by kernel_rfl) (by kernel_rfl) ?_
        repeat (first | (apply q_plain rfl; (· intro W eW; go_simp; (first | done | rfl | (rw [if_pos] <;> first | omega | rfl))); (try simp only [Act.put, List.setIfInBounds_toArray, List.set_cons_zero, List.set_cons_succ])) | (refine qg_skip (by rfl) ?_; (try simp only [Act.put, List.setIfInBounds_toArray, List.set_cons_zero, List.set_cons_succ])) | (apply qg_plain (by rfl); (· intro W eW; go_simp; (first | done | rfl | (rw [if_pos] <;> first | omega | rfl))); (try simp only [Act.put, List.setIfInBounds_toArray, List.set_cons_zero, List.set_cons_succ])))
        ((first | apply q_call rfl | apply qg_call (by rfl)); (· intro W eW; go_simp; (first | done | (constructor <;> rfl))); (· intro W eW; exact laws_eqChange_c (x := x) (y := y) _ ⟨_, rfl, g01, g11, g31.ext ((he.trans eW))⟩ ⟨_, rfl, g02, g12, g32.ext ((he.trans eW))⟩); (try simp only [Act.put, List.setIfInBounds_toArray, List.set_cons_zero, List.set_cons_succ]))
        repeat (first | (apply q_plain rfl; (· intro W eW; go_simp; (first | done | rfl | (rw [if_pos] <;> first | omega | rfl))); (try simp only [Act.put, List.setIfInBounds_toArray, List.set_cons_zero, List.set_cons_succ])) | (refine qg_skip (by rfl) ?_; (try simp only [Act.put, List.setIfInBounds_toArray, List.set_cons_zero, List.set_cons_succ])) | (apply qg_plain (by rfl); (· intro W eW; go_simp; (first | done | rfl | (rw [if_pos] <;> first | omega | rfl))); (try simp only [Act.put, List.setIfInBounds_toArray, List.set_cons_zero, List.set_cons_succ])))
        refine q_nil ?_
        intro w2 e2
        have e3 := he.trans e2
        clear a0 d0 a1 d1 a2 d2 a3 d3
        go_wp2
        · have hxy : eqb x y = false := by have q : (!eqb x y) = true := by assumption
                                           simpa using q
          go_ret
          exact ⟨ret_eqb (by simp [ne_of_get Hx.out Hy.out (eqb_false.1 hxy)]), e3⟩
        · have hxy : eqb x y = true := by have q : (!eqb x y) = false := by assumption
                                          simpa using q
          have hxy : x = y := eqb_true.1 hxy
          go_roundw
          case rel => exact ⟨k + 1, by omega, by go_num, e3, Hal.out.succ Hx.out (by rw [Hy.out, hxy])⟩
          case measure => simp [intOf]; omega
      · have : k = n := by omega
        subst this
        have hal := Lib.hid hal
        go_wp2
        go_ret
        exact ⟨ret_eqb (by simp [eq_of_get Hn.out Hm.out hal.out]), he⟩
  · have hne' : ((n : Int) != (m : Int)) = true := by simp; omega
    go_enter Tryd.func18, Tryd.ntmps18
    go_wp2
    go_ret
    refine ⟨ret_eqb ?_, Ext.refl w⟩
    have : xs ≠ ys := by rintro rfl; exact hne (Hn.out.symm.trans Hm.out)
    simp [this]


end Go.Sf
