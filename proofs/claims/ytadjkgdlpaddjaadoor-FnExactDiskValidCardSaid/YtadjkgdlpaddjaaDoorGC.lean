/- What the tables of the program say of the slice types that are appended to. -/
import Derived.Test.YtadjkgdlpaddjaaDoorChecked
import Derived.Test.YtadjkgdlpaddjaaDoorGA
import Derived.Test.YtadjkgdlpaddjaaDoorGB
set_option linter.all false
/-! What the tables of the program say of the slice types that are appended to. -/
namespace Go.Sf
open Go Go.RowKit Go.Proofs
theorem el_int : Elem Tryd.prog 44 3 1 :=
  elem_of (z := .int .i64 0) (b := 8) Tryd.underlying44 (by kernel_rfl) (by decide) rfl (by decide)
theorem el_string : Elem Tryd.prog 117 9 1 :=
  elem_of (z := .string ⟨#[]⟩) (b := 16) Tryd.underlying117 (by kernel_rfl) (by decide) rfl (by decide)
theorem el_It : Elem Tryd.prog 30 68 3 :=
  elem_of (z := .agg #[.string ⟨#[]⟩, .bool false, .slice none 0 0]) (b := 48) Tryd.underlying30 (by kernel_rfl) (by decide) rfl (by decide)
theorem el_Hd : Elem Tryd.prog 29 46 3 :=
  elem_of (z := .agg #[.int .i64 0, .slice none 0 0, .int .i64 0]) (b := 40) Tryd.underlying29 (by kernel_rfl) (by decide) rfl (by decide)
theorem el_Sn : Elem Tryd.prog 31 72 2 :=
  elem_of (z := .agg #[.string ⟨#[]⟩, .slice none 0 0]) (b := 40) Tryd.underlying31 (by kernel_rfl) (by decide) rfl (by decide)
end Go.Sf

/-! Values are compared: slices by a loop, structs field by field. -/
namespace Go.Sf
open Go Go.RowKit Go.Proofs


set_option maxHeartbeats 1000000 in
theorem spec_l2Same_c {B B' : Nat} {u v : Value} {xs ys : List Int} (w : World) (h1 : Ints B w u xs) (h2 : Ints B' w v ys) :
    Calls Tryd.prog 29 #[u, v] w (Ret (.bool (eqb xs ys)) w) := by
  obtain ⟨A, c, rfl, hA⟩ := h1
  obtain ⟨A', c', rfl, hA'⟩ := h2
  have hl := hA.2.2.1
  have hl' := hA'.2.2.1
  unfold lim at hl hl'
  generalize hn : xs.length = n at *
  generalize hm : ys.length = m at *
  have Hn := Lib.hid hn; clear hn
  have Hm := Lib.hid hm; clear hm
  have HA := Lib.hid hA; clear hA
  have HA' := Lib.hid hA'; clear hA'
  by_cases hne : n = m
  · subst hne
    go_enter Tryd.func29, Tryd.ntmps29
    go_wp2
    go_loopw [5] (fun i  wr => ∃ k : Nat, k ≤ n ∧ i = .int .i64 k ∧ Ext w wr ∧ Alike xs ys k) (fun i  _ => n - (intOf i).toNat)
    case atStart => exact ⟨0, by omega, rfl, Ext.refl w, Alike.zero _ _⟩
    case round =>
      obtain ⟨k, hk, rfl, he, hal⟩ := hrel
      by_cases hlt : k < n
      · obtain ⟨x, hx⟩ := get_of_lt (l := xs) (k := k) (by rw [Hn.out]; exact hlt)
        obtain ⟨y, hy⟩ := get_of_lt (l := ys) (k := k) (by rw [Hm.out]; exact hlt)
        obtain ⟨b1, o1, rfl, -, -, -, hc01⟩ := Ints.at_ HA.out hx
        obtain ⟨b2, o2, rfl, -, -, -, hc02⟩ := Ints.at_ HA'.out hy
        have a0 := fun W (h : Ext wr W) => hc01 W (he.trans h)
        have d0 := fun W (h : Ext wr W) => hc02 W (he.trans h)
        have Hx := Lib.hid hx; have Hy := Lib.hid hy; have Hal := Lib.hid hal
        clear hc01 hc02 hx hy hal
        go_wp2
        refine wp_region_ext (by kernel_rfl) (by kernel_rfl) ?_
        repeat (first | (apply q_plain rfl; (· intro W eW; go_simp; (first | done | rfl | (rw [if_pos] <;> first | omega | rfl))); (try simp only [Act.put, List.setIfInBounds_toArray, List.set_cons_zero, List.set_cons_succ])) | (refine qg_skip (by rfl) ?_; (try simp only [Act.put, List.setIfInBounds_toArray, List.set_cons_zero, List.set_cons_succ])) | (apply qg_plain (by rfl); (· intro W eW; go_simp; (first | done | rfl | (rw [if_pos] <;> first | omega | rfl))); (try simp only [Act.put, List.setIfInBounds_toArray, List.set_cons_zero, List.set_cons_succ])))
        refine q_nil ?_
        intro w2 e2
        have e3 := he.trans e2
        clear a0 d0
        go_wp2
        · have hxy : (x != y) = true := by assumption
          go_ret
          exact ⟨ret_eqb (by simp [ne_of_get Hx.out Hy.out (by simpa using hxy)]), e3⟩
        · have hxy : (x != y) = false := by assumption
          have hxy : x = y := by simpa using hxy
          go_roundw
          case rel => exact ⟨k + 1, by omega, by go_num, e3, Hal.out.succ Hx.out (by rw [Hy.out, hxy])⟩
          case measure => simp [intOf]; omega
      · have : k = n := by omega
        subst this
        have hal := Lib.hid hal
        go_wp2
        go_ret
        exact ⟨ret_eqb (by simp [eq_of_get Hn.out Hm.out hal.out]), he⟩
  · have hne' : ((n : Int) != (m : Int)) = true := by simp; omega
    go_enter Tryd.func29, Tryd.ntmps29
    go_wp2
    go_ret
    refine ⟨ret_eqb ?_, Ext.refl w⟩
    have : xs ≠ ys := by rintro rfl; exact hne (Hn.out.symm.trans Hm.out)
    simp [this]

set_option maxHeartbeats 1000000 in
theorem laws_eqIntS_c {B B' : Nat} {u v : Value} {xs ys : List Int} (w : World) (h1 : Ints B w u xs) (h2 : Ints B' w v ys) :
    Calls Tryd.prog 58 #[u, v] w (Ret (.bool (eqb xs ys)) w) := by
  obtain ⟨A, c, rfl, hA⟩ := h1
  obtain ⟨A', c', rfl, hA'⟩ := h2
  have hl := hA.2.2.1
  have hl' := hA'.2.2.1
  unfold lim at hl hl'
  generalize hn : xs.length = n at *
  generalize hm : ys.length = m at *
  have Hn := Lib.hid hn; clear hn
  have Hm := Lib.hid hm; clear hm
  have HA := Lib.hid hA; clear hA
  have HA' := Lib.hid hA'; clear hA'
  by_cases hne : n = m
  · subst hne
    go_enter Tryd.func58, Tryd.ntmps58
    go_wp2
    go_loopw [5] (fun i  wr => ∃ k : Nat, k ≤ n ∧ i = .int .i64 k ∧ Ext w wr ∧ Alike xs ys k) (fun i  _ => n - (intOf i).toNat)
    case atStart => exact ⟨0, by omega, rfl, Ext.refl w, Alike.zero _ _⟩
    case round =>
      obtain ⟨k, hk, rfl, he, hal⟩ := hrel
      by_cases hlt : k < n
      · obtain ⟨x, hx⟩ := get_of_lt (l := xs) (k := k) (by rw [Hn.out]; exact hlt)
        obtain ⟨y, hy⟩ := get_of_lt (l := ys) (k := k) (by rw [Hm.out]; exact hlt)
        obtain ⟨b1, o1, rfl, -, -, -, hc01⟩ := Ints.at_ HA.out hx
        obtain ⟨b2, o2, rfl, -, -, -, hc02⟩ := Ints.at_ HA'.out hy
        have a0 := fun W (h : Ext wr W) => hc01 W (he.trans h)
        have d0 := fun W (h : Ext wr W) => hc02 W (he.trans h)
        have Hx := Lib.hid hx; have Hy := Lib.hid hy; have Hal := Lib.hid hal
        clear hc01 hc02 hx hy hal
        go_wp2
        refine wp_region_ext (by kernel_rfl) (by kernel_rfl) ?_
        repeat (first | (apply q_plain rfl; (· intro W eW; go_simp; (first | done | rfl | (rw [if_pos] <;> first | omega | rfl))); (try simp only [Act.put, List.setIfInBounds_toArray, List.set_cons_zero, List.set_cons_succ])) | (refine qg_skip (by rfl) ?_; (try simp only [Act.put, List.setIfInBounds_toArray, List.set_cons_zero, List.set_cons_succ])) | (apply qg_plain (by rfl); (· intro W eW; go_simp; (first | done | rfl | (rw [if_pos] <;> first | omega | rfl))); (try simp only [Act.put, List.setIfInBounds_toArray, List.set_cons_zero, List.set_cons_succ])))
        refine q_nil ?_
        intro w2 e2
        have e3 := he.trans e2
        clear a0 d0
        go_wp2
        · have hxy : (x != y) = true := by assumption
          go_ret
          exact ⟨ret_eqb (by simp [ne_of_get Hx.out Hy.out (by simpa using hxy)]), e3⟩
        · have hxy : (x != y) = false := by assumption
          have hxy : x = y := by simpa using hxy
          go_roundw
          case rel => exact ⟨k + 1, by omega, by go_num, e3, Hal.out.succ Hx.out (by rw [Hy.out, hxy])⟩
          case measure => simp [intOf]; omega
      · have : k = n := by omega
        subst this
        have hal := Lib.hid hal
        go_wp2
        go_ret
        exact ⟨ret_eqb (by simp [eq_of_get Hn.out Hm.out hal.out]), he⟩
  · have hne' : ((n : Int) != (m : Int)) = true := by simp; omega
    go_enter Tryd.func58, Tryd.ntmps58
    go_wp2
    go_ret
    refine ⟨ret_eqb ?_, Ext.refl w⟩
    have : xs ≠ ys := by rintro rfl; exact hne (Hn.out.symm.trans Hm.out)
    simp [this]

set_option maxHeartbeats 1000000 in
theorem slices_Equal_int_c {B B' : Nat} {u v : Value} {xs ys : List Int} (w : World) (h1 : Ints B w u xs) (h2 : Ints B' w v ys) :
    Calls Tryd.prog 69 #[u, v] w (Ret (.bool (eqb xs ys)) w) := by
  obtain ⟨A, c, rfl, hA⟩ := h1
  obtain ⟨A', c', rfl, hA'⟩ := h2
  have hl := hA.2.2.1
  have hl' := hA'.2.2.1
  unfold lim at hl hl'
  generalize hn : xs.length = n at *
  generalize hm : ys.length = m at *
  have Hn := Lib.hid hn; clear hn
  have Hm := Lib.hid hm; clear hm
  have HA := Lib.hid hA; clear hA
  have HA' := Lib.hid hA'; clear hA'
  by_cases hne : n = m
  · subst hne
    go_enter Tryd.func69, Tryd.ntmps69
    go_wp2
    go_loopw [13] (fun i  wr => ∃ k : Nat, k ≤ n ∧ i = .int .i64 k ∧ Ext w wr ∧ Alike xs ys k) (fun i  _ => n - (intOf i).toNat)
    case atStart => exact ⟨0, by omega, rfl, Ext.refl w, Alike.zero _ _⟩
    case round =>
      obtain ⟨k, hk, rfl, he, hal⟩ := hrel
      by_cases hlt : k < n
      · obtain ⟨x, hx⟩ := get_of_lt (l := xs) (k := k) (by rw [Hn.out]; exact hlt)
        obtain ⟨y, hy⟩ := get_of_lt (l := ys) (k := k) (by rw [Hm.out]; exact hlt)
        obtain ⟨b1, o1, rfl, -, -, -, hc01⟩ := Ints.at_ HA.out hx
        obtain ⟨b2, o2, rfl, -, -, -, hc02⟩ := Ints.at_ HA'.out hy
        have a0 := fun W (h : Ext wr W) => hc01 W (he.trans h)
        have d0 := fun W (h : Ext wr W) => hc02 W (he.trans h)
        have Hx := Lib.hid hx; have Hy := Lib.hid hy; have Hal := Lib.hid hal
        clear hc01 hc02 hx hy hal
        go_wp2
        refine wp_region_ext (by kernel_rfl) (by kernel_rfl) ?_
        repeat (first | (apply q_plain rfl; (· intro W eW; go_simp; (first | done | rfl | (rw [if_pos] <;> first | omega | rfl))); (try simp only [Act.put, List.setIfInBounds_toArray, List.set_cons_zero, List.set_cons_succ])) | (refine qg_skip (by rfl) ?_; (try simp only [Act.put, List.setIfInBounds_toArray, List.set_cons_zero, List.set_cons_succ])) | (apply qg_plain (by rfl); (· intro W eW; go_simp; (first | done | rfl | (rw [if_pos] <;> first | omega | rfl))); (try simp only [Act.put, List.setIfInBounds_toArray, List.set_cons_zero, List.set_cons_succ])))
        refine q_nil ?_
        intro w2 e2
        have e3 := he.trans e2
        clear a0 d0
        go_wp2
        · have hxy : (x != y) = true := by assumption
          go_ret
          exact ⟨ret_eqb (by simp [ne_of_get Hx.out Hy.out (by simpa using hxy)]), e3⟩
        · have hxy : (x != y) = false := by assumption
          have hxy : x = y := by simpa using hxy
          go_roundw
          case rel => exact ⟨k + 1, by omega, by go_num, e3, Hal.out.succ Hx.out (by rw [Hy.out, hxy])⟩
          case measure => simp [intOf]; omega
      · have : k = n := by omega
        subst this
        have hal := Lib.hid hal
        go_wp2
        go_ret
        exact ⟨ret_eqb (by simp [eq_of_get Hn.out Hm.out hal.out]), he⟩
  · have hne' : ((n : Int) != (m : Int)) = true := by simp; omega
    go_enter Tryd.func69, Tryd.ntmps69
    go_wp2
    go_ret
    refine ⟨ret_eqb ?_, Ext.refl w⟩
    have : xs ≠ ys := by rintro rfl; exact hne (Hn.out.symm.trans Hm.out)
    simp [this]





set_option maxHeartbeats 1000000 in
theorem laws_eqItem_c {B B' : Nat} {u v : Value} {x y : It} (w : World) (h1 : ItV B w u x) (h2 : ItV B' w v y) :
    Calls Tryd.prog 45 #[u, v] w (Ret (.bool (eqb x y)) w) := by
  obtain ⟨xpath, xdir, xids⟩ := x
  obtain ⟨ypath, ydir, yids⟩ := y
  obtain ⟨u2x, rfl, g0x, g2x⟩ := h1
  obtain ⟨u2y, rfl, g0y, g2y⟩ := h2
  have G0x := Lib.hid g0x; clear g0x
  have G0y := Lib.hid g0y; clear g0y
  have G2x := Lib.hid g2x; clear g2x
  have G2y := Lib.hid g2y; clear g2y
  go_enter Tryd.func45, Tryd.ntmps45
  go_wp2_with (first | (go_at_call 58; refine (laws_eqIntS_c _ (Ints.ext G2x.out (by first | assumption | go_simp)) (Ints.ext G2y.out (by first | assumption | go_simp))).mono ?_; rintro e w' ⟨rfl, he'⟩; have he := Ext.trans (a := w) (by first | assumption | go_simp) he'; clear he'))
  all_goals go_ret
  all_goals simp only [bytes_ne_iff] at *
  all_goals refine ⟨ret_eqb ?_, by first | assumption | go_simp⟩
  all_goals simp only [It.mk.injEq]
  all_goals (try simp_all [eqb_iff, eqb_false])





set_option maxHeartbeats 1000000 in
theorem laws_eqHeld_c {B B' : Nat} {u v : Value} {x y : Hd} (w : World) (h1 : HdV B w u x) (h2 : HdV B' w v y) :
    Calls Tryd.prog 44 #[u, v] w (Ret (.bool (eqb x y)) w) := by
  obtain ⟨xid, xbytes, xuses⟩ := x
  obtain ⟨yid, ybytes, yuses⟩ := y
  obtain ⟨u1x, rfl, g0x, g1x, g2x⟩ := h1
  obtain ⟨u1y, rfl, g0y, g1y, g2y⟩ := h2
  have G0x := Lib.hid g0x; clear g0x
  have G0y := Lib.hid g0y; clear g0y
  have G1x := Lib.hid g1x; clear g1x
  have G1y := Lib.hid g1y; clear g1y
  have G2x := Lib.hid g2x; clear g2x
  have G2y := Lib.hid g2y; clear g2y
  have hx2 : ∀ W, Ext ((w.alloc (.cells #[.int .i64 xid, u1x, .int .i64 xuses] 46)).alloc (.cells #[.int .i64 yid, u1y, .int .i64 yuses] 46)) W → W.cell? ⟨w.heap.size, 2, none⟩ = some (.int .i64 xuses) := fun W e => by
    have := (((Blk.new w 46 #[.int .i64 xid, u1x, .int .i64 xuses]).alloc (.cells #[.int .i64 yid, u1y, .int .i64 yuses] 46)).ext e).cell 2
    simpa using this
  have hy2 : ∀ W, Ext ((w.alloc (.cells #[.int .i64 xid, u1x, .int .i64 xuses] 46)).alloc (.cells #[.int .i64 yid, u1y, .int .i64 yuses] 46)) W → W.cell? ⟨w.heap.size + 1, 2, none⟩ = some (.int .i64 yuses) := fun W e => by
    have := ((Blk.new (w.alloc (.cells #[.int .i64 xid, u1x, .int .i64 xuses] 46)) 46 #[.int .i64 yid, u1y, .int .i64 yuses]).ext e).cell 2
    simpa using this
  obtain ⟨Ax, cx, rfl, -⟩ := G1x.out
  obtain ⟨Ay, cy, rfl, -⟩ := G1y.out
  go_enter Tryd.func44, Tryd.ntmps44
  go_wp2_with (first | (go_at_call 58; refine (laws_eqIntS_c _ (Ints.ext G1x.out (by first | assumption | go_simp)) (Ints.ext G1y.out (by first | assumption | go_simp))).mono ?_; rintro e w' ⟨rfl, he'⟩; have k2 := hx2 w' he'; have m2 := hy2 w' he'; have he := Ext.trans (a := w) (by first | assumption | go_simp) he'; clear he'))
  all_goals go_ret
  all_goals simp only [bytes_ne_iff] at *
  all_goals refine ⟨ret_eqb ?_, by first | assumption | go_simp⟩
  all_goals simp only [Hd.mk.injEq]
  all_goals (try simp_all [bytes_inj, eqb_iff, eqb_false])







set_option maxHeartbeats 1000000 in
theorem laws_eqItemS_c {B B' : Nat} {u v : Value} {xs ys : List It} (w : World) (h1 : Its B w u xs) (h2 : Its B' w v ys) :
    Calls Tryd.prog 22 #[u, v] w (Ret (.bool (eqb xs ys)) w) := by
  obtain ⟨A, c, rfl, hA⟩ := h1
  obtain ⟨A', c', rfl, hA'⟩ := h2
  have hl := hA.2.2.1
  have hl' := hA'.2.2.1
  unfold lim at hl hl'
  generalize hn : xs.length = n at *
  generalize hm : ys.length = m at *
  have Hn := Lib.hid hn; clear hn
  have Hm := Lib.hid hm; clear hm
  have HA := Lib.hid hA; clear hA
  have HA' := Lib.hid hA'; clear hA'
  by_cases hne : n = m
  · subst hne
    go_enter Tryd.func22, Tryd.ntmps22
    go_wp2
    go_loopw [5] (fun i  wr => ∃ k : Nat, k ≤ n ∧ i = .int .i64 k ∧ Ext w wr ∧ Alike xs ys k) (fun i  _ => n - (intOf i).toNat)
    case atStart => exact ⟨0, by omega, rfl, Ext.refl w, Alike.zero _ _⟩
    case round =>
      obtain ⟨k, hk, rfl, he, hal⟩ := hrel
      by_cases hlt : k < n
      · obtain ⟨x, hx⟩ := get_of_lt (l := xs) (k := k) (by rw [Hn.out]; exact hlt)
        obtain ⟨y, hy⟩ := get_of_lt (l := ys) (k := k) (by rw [Hm.out]; exact hlt)
        obtain ⟨b1, o1, u21, rfl, -, -, g01, g21, hc01, hc11, hc21⟩ := Its.at_ HA.out hx
        obtain ⟨b2, o2, u22, rfl, -, -, g02, g22, hc02, hc12, hc22⟩ := Its.at_ HA'.out hy
        have a0 := fun W (h : Ext wr W) => hc01 W (he.trans h)
        have d0 := fun W (h : Ext wr W) => hc02 W (he.trans h)
        have a1 := fun W (h : Ext wr W) => hc11 W (he.trans h)
        have d1 := fun W (h : Ext wr W) => hc12 W (he.trans h)
        have a2 := fun W (h : Ext wr W) => hc21 W (he.trans h)
        have d2 := fun W (h : Ext wr W) => hc22 W (he.trans h)
        have Hx := Lib.hid hx; have Hy := Lib.hid hy; have Hal := Lib.hid hal
        clear hc01 hc02 hc11 hc12 hc21 hc22 hx hy hal
        go_wp2
        refine wp_region_ext (by kernel_rfl) (by kernel_rfl) ?_
        repeat (first | (apply q_plain rfl; (· intro W eW; go_simp; (first | done | rfl | (rw [if_pos] <;> first | omega | rfl))); (try simp only [Act.put, List.setIfInBounds_toArray, List.set_cons_zero, List.set_cons_succ])) | (refine qg_skip (by rfl) ?_; (try simp only [Act.put, List.setIfInBounds_toArray, List.set_cons_zero, List.set_cons_succ])) | (apply qg_plain (by rfl); (· intro W eW; go_simp; (first | done | rfl | (rw [if_pos] <;> first | omega | rfl))); (try simp only [Act.put, List.setIfInBounds_toArray, List.set_cons_zero, List.set_cons_succ])))
        ((first | apply q_call rfl | apply qg_call (by rfl)); (· intro W eW; go_simp; (first | done | (constructor <;> rfl))); (· intro W eW; exact laws_eqItem_c (x := x) (y := y) _ ⟨_, rfl, g01, g21.ext ((he.trans eW))⟩ ⟨_, rfl, g02, g22.ext ((he.trans eW))⟩); (try simp only [Act.put, List.setIfInBounds_toArray, List.set_cons_zero, List.set_cons_succ]))
        repeat (first | (apply q_plain rfl; (· intro W eW; go_simp; (first | done | rfl | (rw [if_pos] <;> first | omega | rfl))); (try simp only [Act.put, List.setIfInBounds_toArray, List.set_cons_zero, List.set_cons_succ])) | (refine qg_skip (by rfl) ?_; (try simp only [Act.put, List.setIfInBounds_toArray, List.set_cons_zero, List.set_cons_succ])) | (apply qg_plain (by rfl); (· intro W eW; go_simp; (first | done | rfl | (rw [if_pos] <;> first | omega | rfl))); (try simp only [Act.put, List.setIfInBounds_toArray, List.set_cons_zero, List.set_cons_succ])))
        refine q_nil ?_
        intro w2 e2
        have e3 := he.trans e2
        clear a0 d0 a1 d1 a2 d2
        go_wp2
        · have hxy : eqb x y = false := by have q : (!eqb x y) = true := by assumption
                                           simpa using q
          go_ret
          exact ⟨ret_eqb (by simp [ne_of_get Hx.out Hy.out (eqb_false.1 hxy)]), e3⟩
        · have hxy : eqb x y = true := by have q : (!eqb x y) = false := by assumption
                                          simpa using q
          have hxy : x = y := eqb_true.1 hxy
          go_roundw
          case rel => exact ⟨k + 1, by omega, by go_num, e3, Hal.out.succ Hx.out (by rw [Hy.out, hxy])⟩
          case measure => simp [intOf]; omega
      · have : k = n := by omega
        subst this
        have hal := Lib.hid hal
        go_wp2
        go_ret
        exact ⟨ret_eqb (by simp [eq_of_get Hn.out Hm.out hal.out]), he⟩
  · have hne' : ((n : Int) != (m : Int)) = true := by simp; omega
    go_enter Tryd.func22, Tryd.ntmps22
    go_wp2
    go_ret
    refine ⟨ret_eqb ?_, Ext.refl w⟩
    have : xs ≠ ys := by rintro rfl; exact hne (Hn.out.symm.trans Hm.out)
    simp [this]


set_option maxHeartbeats 1000000 in
theorem laws_eqHeldS_c {B B' : Nat} {u v : Value} {xs ys : List Hd} (w : World) (h1 : Hds B w u xs) (h2 : Hds B' w v ys) :
    Calls Tryd.prog 21 #[u, v] w (Ret (.bool (eqb xs ys)) w) := by
  obtain ⟨A, c, rfl, hA⟩ := h1
  obtain ⟨A', c', rfl, hA'⟩ := h2
  have hl := hA.2.2.1
  have hl' := hA'.2.2.1
  unfold lim at hl hl'
  generalize hn : xs.length = n at *
  generalize hm : ys.length = m at *
  have Hn := Lib.hid hn; clear hn
  have Hm := Lib.hid hm; clear hm
  have HA := Lib.hid hA; clear hA
  have HA' := Lib.hid hA'; clear hA'
  by_cases hne : n = m
  · subst hne
    go_enter Tryd.func21, Tryd.ntmps21
    go_wp2
    go_loopw [5] (fun i  wr => ∃ k : Nat, k ≤ n ∧ i = .int .i64 k ∧ Ext w wr ∧ Alike xs ys k) (fun i  _ => n - (intOf i).toNat)
    case atStart => exact ⟨0, by omega, rfl, Ext.refl w, Alike.zero _ _⟩
    case round =>
      obtain ⟨k, hk, rfl, he, hal⟩ := hrel
      by_cases hlt : k < n
      · obtain ⟨x, hx⟩ := get_of_lt (l := xs) (k := k) (by rw [Hn.out]; exact hlt)
        obtain ⟨y, hy⟩ := get_of_lt (l := ys) (k := k) (by rw [Hm.out]; exact hlt)
        obtain ⟨b1, o1, u11, rfl, -, -, g01, g11, g21, hc01, hc11, hc21⟩ := Hds.at_ HA.out hx
        obtain ⟨b2, o2, u12, rfl, -, -, g02, g12, g22, hc02, hc12, hc22⟩ := Hds.at_ HA'.out hy
        have a0 := fun W (h : Ext wr W) => hc01 W (he.trans h)
        have d0 := fun W (h : Ext wr W) => hc02 W (he.trans h)
        have a1 := fun W (h : Ext wr W) => hc11 W (he.trans h)
        have d1 := fun W (h : Ext wr W) => hc12 W (he.trans h)
        have a2 := fun W (h : Ext wr W) => hc21 W (he.trans h)
        have d2 := fun W (h : Ext wr W) => hc22 W (he.trans h)
        have Hx := Lib.hid hx; have Hy := Lib.hid hy; have Hal := Lib.hid hal
        clear hc01 hc02 hc11 hc12 hc21 hc22 hx hy hal
        go_wp2
        refine wp_region_ext (by kernel_rfl) (by kernel_rfl) ?_
        repeat (first | (apply q_plain rfl; (· intro W eW; go_simp; (first | done | rfl | (rw [if_pos] <;> first | omega | rfl))); (try simp only [Act.put, List.setIfInBounds_toArray, List.set_cons_zero, List.set_cons_succ])) | (refine qg_skip (by rfl) ?_; (try simp only [Act.put, List.setIfInBounds_toArray, List.set_cons_zero, List.set_cons_succ])) | (apply qg_plain (by rfl); (· intro W eW; go_simp; (first | done | rfl | (rw [if_pos] <;> first | omega | rfl))); (try simp only [Act.put, List.setIfInBounds_toArray, List.set_cons_zero, List.set_cons_succ])))
        ((first | apply q_call rfl | apply qg_call (by rfl)); (· intro W eW; go_simp; (first | done | (constructor <;> rfl))); (· intro W eW; exact laws_eqHeld_c (x := x) (y := y) _ ⟨_, rfl, g01, g11.ext ((he.trans eW)), g21⟩ ⟨_, rfl, g02, g12.ext ((he.trans eW)), g22⟩); (try simp only [Act.put, List.setIfInBounds_toArray, List.set_cons_zero, List.set_cons_succ]))
        repeat (first | (apply q_plain rfl; (· intro W eW; go_simp; (first | done | rfl | (rw [if_pos] <;> first | omega | rfl))); (try simp only [Act.put, List.setIfInBounds_toArray, List.set_cons_zero, List.set_cons_succ])) | (refine qg_skip (by rfl) ?_; (try simp only [Act.put, List.setIfInBounds_toArray, List.set_cons_zero, List.set_cons_succ])) | (apply qg_plain (by rfl); (· intro W eW; go_simp; (first | done | rfl | (rw [if_pos] <;> first | omega | rfl))); (try simp only [Act.put, List.setIfInBounds_toArray, List.set_cons_zero, List.set_cons_succ])))
        refine q_nil ?_
        intro w2 e2
        have e3 := he.trans e2
        clear a0 d0 a1 d1 a2 d2
        go_wp2
        · have hxy : eqb x y = false := by have q : (!eqb x y) = true := by assumption
                                           simpa using q
          go_ret
          exact ⟨ret_eqb (by simp [ne_of_get Hx.out Hy.out (eqb_false.1 hxy)]), e3⟩
        · have hxy : eqb x y = true := by have q : (!eqb x y) = false := by assumption
                                          simpa using q
          have hxy : x = y := eqb_true.1 hxy
          go_roundw
          case rel => exact ⟨k + 1, by omega, by go_num, e3, Hal.out.succ Hx.out (by rw [Hy.out, hxy])⟩
          case measure => simp [intOf]; omega
      · have : k = n := by omega
        subst this
        have hal := Lib.hid hal
        go_wp2
        go_ret
        exact ⟨ret_eqb (by simp [eq_of_get Hn.out Hm.out hal.out]), he⟩
  · have hne' : ((n : Int) != (m : Int)) = true := by simp; omega
    go_enter Tryd.func21, Tryd.ntmps21
    go_wp2
    go_ret
    refine ⟨ret_eqb ?_, Ext.refl w⟩
    have : xs ≠ ys := by rintro rfl; exact hne (Hn.out.symm.trans Hm.out)
    simp [this]

end Go.Sf

/-! The reference's functions on paths compute the plain ones. -/
namespace Go.Sf
open Go Go.RowKit Go.Proofs
theorem ret_b {a b : Bool} (h : a = b) : Ending.returned (.bool a) = .returned (.bool b) := by rw [h]
theorem ret_i {k : IntKind} {a b : Int} (h : a = b) : Ending.returned (.int k a) = .returned (.int k b) := by rw [h]
theorem ret_s {a b : ByteArray} (h : a = b) : Ending.returned (.string a) = .returned (.string b) := by rw [h]
set_option maxHeartbeats 400000 in
theorem l6In_c (n lo hi : Int) (w : World) : Calls Tryd.prog 27 #[.int .i64 n, .int .i64 lo, .int .i64 hi] w (Ret (.bool (inB n lo hi)) w) := by
  go_enter Tryd.func27, Tryd.ntmps27
  go_wp2
  · have h : lo ≤ n := by assumption
    go_ret
    exact ⟨ret_b (by simp [inB, h]), Ext.refl w⟩
  · have h : n < lo := by assumption
    go_ret
    exact ⟨ret_b (by simp [inB]; omega), Ext.refl w⟩
set_option maxHeartbeats 400000 in
theorem l1Word_c (s : ByteArray) (w : World) (hs : s.size < lim) : Calls Tryd.prog 33 #[.string s] w (Ret (.bool (wordOk (bl s))) w) := by
  unfold lim at hs
  go_enter Tryd.func33, Tryd.ntmps33
  go_wp2
  go_loopw [3] (fun i wr => ∃ k : Nat, k ≤ s.size ∧ i = .int .i64 k ∧ Ext w wr ∧ Hid (((bl s).take k).all low = true)) (fun i _ => s.size - (intOf i).toNat)
  case atStart => exact ⟨0, by omega, rfl, Ext.refl w, by simp [Hid]⟩
  case round =>
    obtain ⟨k, hk, rfl, he, hall⟩ := hrel
    by_cases hlt : k < s.size
    · have hget := Lib.hid (bl_get s hlt)
      generalize hc : s[k] = c at *
      have Hc := Lib.hid hc
      by_cases h1 : (97 : Int) ≤ (c.toNat : Int)
      · by_cases h2 : (c.toNat : Int) ≤ 122
        · go_wp2_with fail
          go_roundw
          case rel =>
            refine ⟨k + 1, by omega, by go_num, he, ?_⟩
            show _ = true
            rw [List.take_add_one, hget.out]
            have := hall.out
            simp [this, low]; omega
          case measure => simp [intOf]; omega
        · go_wp2_with fail
          go_ret
          refine ⟨ret_b ?_, he⟩
          have : (bl s).all low = false := by
            rw [List.all_eq_false]
            exact ⟨c, List.mem_of_getElem? hget.out, by simp [low]; omega⟩
          simp [wordOk, this]
      · go_wp2_with fail
        go_ret
        refine ⟨ret_b ?_, he⟩
        have : (bl s).all low = false := by
          rw [List.all_eq_false]
          exact ⟨c, List.mem_of_getElem? hget.out, by simp [low]; omega⟩
        simp [wordOk, this]
    · have hks : k = s.size := by omega
      subst hks
      go_wp2_with (go_at_call 27; refine (l6In_c _ _ _ _).mono ?_; rintro e w' ⟨rfl, he'⟩)
      go_ret
      refine ⟨ret_b ?_, he.trans he'⟩
      have := hall.out
      rw [List.take_of_length_le (by rw [bl_length]; omega)] at this
      have e : inB (s.size : Int) 1 5 = (decide (1 ≤ s.size) && decide (s.size ≤ 5)) := by
        rw [Bool.eq_iff_iff]; simp [inB]; omega
      rw [Bool.eq_iff_iff]
      simp [wordOk, this, e, bl_length]
      exact ⟨fun h => ⟨decide_eq_true h.1, decide_eq_true h.2⟩, fun h => ⟨of_decide_eq_true h.1, of_decide_eq_true h.2⟩⟩

set_option maxHeartbeats 400000 in
theorem l1Last_c (s : ByteArray) (w : World) (hs : s.size < lim) : Calls Tryd.prog 60 #[.string s] w (Ret (.int .i64 (lastSlash (bl s))) w) := by
  unfold lim at hs
  go_enter Tryd.func60, Tryd.ntmps60
  go_wp2
  go_loopw [3, 4] (fun r i wr => ∃ (k : Nat) (q : Int), k ≤ s.size ∧ i = .int .i64 k ∧ r = .int .i64 q ∧ Ext w wr ∧ Hid (lastG ((bl s).drop k) k q = lastSlash (bl s))) (fun _ i _ => s.size - (intOf i).toNat)
  case atStart => exact ⟨0, -1, by omega, rfl, rfl, Ext.refl w, rfl⟩
  case round =>
    obtain ⟨k, q, hk, rfl, rfl, he, hrest⟩ := hrel
    by_cases hlt : k < s.size
    · have hget := Lib.hid (bl_get s hlt)
      generalize hc : s[k] = c at *
      have Hc := Lib.hid hc
      have hd : Hid ((bl s).drop k = c :: (bl s).drop (k + 1)) := by
        show _ = _
        have hl : k < (bl s).length := by rw [bl_length]; exact hlt
        rw [List.drop_eq_getElem_cons hl]
        have := hget.out
        rw [List.getElem?_eq_getElem hl] at this
        rw [Option.some.inj this]
      by_cases h1 : c = 47
      · subst h1
        go_wp2
        go_roundw
        case rel => exact ⟨k + 1, k, by omega, by go_num, rfl, he, Lib.hid (by have := hrest.out; rw [hd.out] at this; simpa [lastG] using this)⟩
        case measure => simp [intOf]; omega
      · have h2 : ((c.toNat : Int) == 47) = false := by
          rw [beq_eq_false_iff_ne]; intro e; exact h1 (UInt8.toNat_inj.1 (by simpa using (by omega : c.toNat = 47)))
        have H1 := Lib.hid h1; clear h1
        go_wp2
        go_roundw
        case rel => exact ⟨k + 1, q, by omega, by go_num, rfl, he, Lib.hid (by have := hrest.out; rw [hd.out] at this; simpa [lastG, H1.out] using this)⟩
        case measure => simp [intOf]; omega
    · have hks : k = s.size := by omega
      subst hks
      go_wp2
      go_ret
      refine ⟨ret_i ?_, he⟩
      have := hrest.out
      rw [List.drop_of_length_le (by rw [bl_length]; omega)] at this
      exact this
set_option maxHeartbeats 400000 in
theorem l5Parent_c (s : ByteArray) (w : World) (hs : s.size < lim) : Calls Tryd.prog 49 #[.string s] w (Ret (.string (parentB s)) w) := by
  have hs' := hs
  unfold lim at hs'
  have hb := lastSlash_bd (bl s)
  rw [bl_length] at hb
  go_enter Tryd.func49, Tryd.ntmps49
  go_wp2_with (go_at_call 60; refine (l1Last_c _ _ hs).mono ?_; rintro e w' ⟨rfl, he'⟩)
  all_goals (go_ret; refine ⟨ret_s ?_, he'⟩; unfold parentB)
  · have h : lastSlash (bl s) < 0 := by assumption
    have : (lastSlash (bl s)).toNat = 0 := by omega
    rw [this]; try simp
  · rfl

/-- the pieces of a text between its slashes -/
def CutAt (s : ByteArray) (ps : List ByteArray) (f k : Nat) : Prop := ps.map bl ++ cutG (((bl s).take k).drop f) ((bl s).drop k) = cut (bl s)
theorem drop_get {s : ByteArray} {k : Nat} {c : UInt8} (hlt : k < s.size) (hget : (bl s)[k]? = some c) : (bl s).drop k = c :: (bl s).drop (k + 1) := by
  have hl : k < (bl s).length := by rw [bl_length]; exact hlt
  rw [List.drop_eq_getElem_cons hl]
  rw [List.getElem?_eq_getElem hl] at hget
  rw [Option.some.inj hget]
theorem CutAt.slash {s : ByteArray} {ps : List ByteArray} {f k : Nat} (h : CutAt s ps f k) (hlt : k < s.size) (hget : (bl s)[k]? = some 47) : CutAt s (ps ++ [s.extract f k]) (k + 1) (k + 1) := by
  unfold CutAt at *
  rw [drop_get hlt hget] at h
  rw [← h]
  have e : ((bl s).take (k + 1)).drop (k + 1) = [] := by simp
  simp [cutG, bl_extract, e]
theorem CutAt.on {s : ByteArray} {ps : List ByteArray} {f k : Nat} {c : UInt8} (h : CutAt s ps f k) (hf : f ≤ k) (hlt : k < s.size) (hget : (bl s)[k]? = some c) (hc : c ≠ 47) : CutAt s ps f (k + 1) := by
  unfold CutAt at *
  rw [drop_get hlt hget] at h
  have hl : k < (bl s).length := by rw [bl_length]; exact hlt
  have e : ((bl s).take (k + 1)).drop f = ((bl s).take k).drop f ++ [c] := by
    rw [List.take_add_one, hget, List.drop_append_of_le_length (by simp; omega)]; rfl
  rw [e]
  simpa [cutG, hc] using h
theorem CutAt.done {s : ByteArray} {ps : List ByteArray} {f : Nat} (h : CutAt s ps f s.size) : (ps ++ [s.extract f s.size]).map bl = cut (bl s) := by
  unfold CutAt at h
  have e : (bl s).drop s.size = [] := List.drop_of_length_le (by rw [bl_length]; omega)
  rw [e] at h
  rw [← h]
  simp [cutG, bl_extract]
set_option maxHeartbeats 1000000 in
theorem l1Cut_c (s : ByteArray) (w : World) (hs4 : s.size < lim) :
    Calls Tryd.prog 59 #[.string s] w (RetP (fun v w' => ∃ ps : List ByteArray, ps.map bl = cut (bl s) ∧ Strs w.heap.size w' v ps) w) := by
  have hlim := hs4
  unfold lim at hlim
  go_enter Tryd.func59, Tryd.ntmps59
  go_wp2
  go_loopw [3, 4, 5] (fun v f i wr => ∃ (k q : Nat) (ps : List ByteArray), k ≤ s.size ∧ q ≤ k ∧ ps.length ≤ k ∧ i = .int .i64 k ∧ f = .int .i64 q ∧ Ext w wr ∧ OwnS w.heap.size 9 1 EStr wr v ps ∧ CutAt s ps q k) (fun _ _ i _ => s.size - (intOf i).toNat)
  case atStart => exact ⟨0, 0, [], by omega, by omega, by simp, rfl, rfl, (Ext.refl w).alloc _, OwnS.lit0 _ _ _ _ (Nat.le_refl _), by simp [CutAt, cut]⟩
  case round =>
    obtain ⟨k, q, ps, hk, hq, hp, rfl, rfl, he, hO, hcut⟩ := hrel
    by_cases hlt : k < s.size
    · have hget := Lib.hid (bl_get s hlt)
      generalize hc : s[k] = c at *
      have Hc := Lib.hid hc
      by_cases h1 : c = 47
      · subst h1
        have Hcut := Lib.hid (hcut.slash hlt hget.out); clear hcut
        go_wp2_with (at_builtin; go_must (refine wp_ap1 (w0 := w) (by rfl) _ _ (by rfl) el_string estr_ok he _ ps [s.extract q k] (by rfl) hO 1 1 rfl #[.string (s.extract q k)] _ (by rfl) (by first | rfl | simp) rfl (one_cells rfl) (one_E ⟨rfl, ?_⟩) ?_ ?_))
        · have := bl_extract s q k
          rw [← bl_length, this]; simp [bl_length]; unfold lim; omega
        · simp; unfold lim; omega
        · intro v' w' hO' he' _
          clear hO he
          go_wp2
          go_roundw
          case rel => exact ⟨k + 1, k + 1, _, by omega, by omega, by simp; omega, by go_num, by go_num, he', hO', Hcut.out⟩
          case measure => simp [intOf]; omega
      · have h2 : ((c.toNat : Int) == 47) = false := by
          rw [beq_eq_false_iff_ne]; intro e; exact h1 (UInt8.toNat_inj.1 (by simpa using (by omega : c.toNat = 47)))
        have Hcut := Lib.hid (hcut.on hq hlt hget.out h1); clear hcut
        have H1 := Lib.hid h1; clear h1
        go_wp2
        go_roundw
        case rel => exact ⟨k + 1, q, ps, by omega, by omega, by omega, by go_num, rfl, he, hO, Hcut.out⟩
        case measure => simp [intOf]; omega
    · have hks : k = s.size := by omega
      subst hks
      have Hcut := Lib.hid hcut.done; clear hcut
      go_wp2_with (at_builtin; go_must (refine wp_ap1 (w0 := w) (by rfl) _ _ (by rfl) el_string estr_ok he _ ps [s.extract q s.size] (by rfl) hO 1 1 rfl #[.string (s.extract q s.size)] _ (by rfl) (by first | rfl | simp) rfl (one_cells rfl) (one_E ⟨rfl, ?_⟩) ?_ ?_))
      · have := bl_extract s q s.size
        rw [← bl_length, this]; simp [bl_length]; unfold lim; omega
      · simp; unfold lim; omega
      · intro v' w' hO' he' _
        clear hO he
        go_wp2
        go_ret
        exact ⟨_, rfl, ⟨_, Hcut.out, hO'.sl estr_ok (Nat.le_refl _) (by simp; unfold lim; omega)⟩, he'⟩
end Go.Sf
