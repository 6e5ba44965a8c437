/- Snapshots are compared. -/
import Derived.Test.YtadjkgdlpaddjaaDoorGC
set_option linter.all false
namespace Go.Sf
open Go Go.RowKit Go.Proofs

set_option maxHeartbeats 1000000 in
theorem laws_eqSnap_c {B B' : Nat} {u v : Value} {x y : Sn} (w : World) (h1 : SnV B w u x) (h2 : SnV B' w v y) :
    Calls Tryd.prog 46 #[u, v] w (Ret (.bool (eqb x y)) w) := by
  obtain ⟨xname, xtree⟩ := x
  obtain ⟨yname, ytree⟩ := y
  obtain ⟨u1x, rfl, g0x, g1x⟩ := h1
  obtain ⟨u1y, rfl, g0y, g1y⟩ := h2
  have G0x := Lib.hid g0x; clear g0x
  have G0y := Lib.hid g0y; clear g0y
  have G1x := Lib.hid g1x; clear g1x
  have G1y := Lib.hid g1y; clear g1y
  go_enter Tryd.func46, Tryd.ntmps46
  go_wp2_with (first | (go_at_call 22; refine (laws_eqItemS_c _ (Its.ext G1x.out (by first | assumption | go_simp)) (Its.ext G1y.out (by first | assumption | go_simp))).mono ?_; rintro e w' ⟨rfl, he'⟩; have he := Ext.trans (a := w) (by first | assumption | go_simp) he'; clear he'))
  all_goals go_ret
  all_goals simp only [bytes_ne_iff] at *
  all_goals refine ⟨ret_eqb ?_, by first | assumption | go_simp⟩
  all_goals simp only [Sn.mk.injEq]
  all_goals (try simp_all [bytes_inj, eqb_iff, eqb_false])

set_option maxHeartbeats 1000000 in
theorem laws_eqSnapS_c {B B' : Nat} {u v : Value} {xs ys : List Sn} (w : World) (h1 : Sns B w u xs) (h2 : Sns B' w v ys) :
    Calls Tryd.prog 23 #[u, v] w (Ret (.bool (eqb xs ys)) w) := by
  obtain ⟨A, c, rfl, hA⟩ := h1
  obtain ⟨A', c', rfl, hA'⟩ := h2
  have hl := hA.2.2.1
  have hl' := hA'.2.2.1
  unfold lim at hl hl'
  generalize hn : xs.length = n at *
  generalize hm : ys.length = m at *
  have Hn := Lib.hid hn; clear hn
  have Hm := Lib.hid hm; clear hm
  have HA := Lib.hid hA; clear hA
  have HA' := Lib.hid hA'; clear hA'
  by_cases hne : n = m
  · subst hne
    go_enter Tryd.func23, Tryd.ntmps23
    go_wp2
    go_loopw [5] (fun i  wr => ∃ k : Nat, k ≤ n ∧ i = .int .i64 k ∧ Ext w wr ∧ Alike xs ys k) (fun i  _ => n - (intOf i).toNat)
    case atStart => exact ⟨0, by omega, rfl, Ext.refl w, Alike.zero _ _⟩
    case round =>
      obtain ⟨k, hk, rfl, he, hal⟩ := hrel
      by_cases hlt : k < n
      · obtain ⟨x, hx⟩ := get_of_lt (l := xs) (k := k) (by rw [Hn.out]; exact hlt)
        obtain ⟨y, hy⟩ := get_of_lt (l := ys) (k := k) (by rw [Hm.out]; exact hlt)
        obtain ⟨b1, o1, u11, rfl, -, -, g01, g11, hc01, hc11⟩ := Sns.at_ HA.out hx
        obtain ⟨b2, o2, u12, rfl, -, -, g02, g12, hc02, hc12⟩ := Sns.at_ HA'.out hy
        have a0 := fun W (h : Ext wr W) => hc01 W (he.trans h)
        have d0 := fun W (h : Ext wr W) => hc02 W (he.trans h)
        have a1 := fun W (h : Ext wr W) => hc11 W (he.trans h)
        have d1 := fun W (h : Ext wr W) => hc12 W (he.trans h)
        have Hx := Lib.hid hx; have Hy := Lib.hid hy; have Hal := Lib.hid hal
        clear hc01 hc02 hc11 hc12 hx hy hal
        go_wp2
        refine wp_region_ext (by kernel_rfl) (by kernel_rfl) ?_
        repeat (first | (apply q_plain rfl; (· intro W eW; go_simp; (first | done | rfl | (rw [if_pos] <;> first | omega | rfl))); (try simp only [Act.put, List.setIfInBounds_toArray, List.set_cons_zero, List.set_cons_succ])) | (refine qg_skip (by rfl) ?_; (try simp only [Act.put, List.setIfInBounds_toArray, List.set_cons_zero, List.set_cons_succ])) | (apply qg_plain (by rfl); (· intro W eW; go_simp; (first | done | rfl | (rw [if_pos] <;> first | omega | rfl))); (try simp only [Act.put, List.setIfInBounds_toArray, List.set_cons_zero, List.set_cons_succ])))
        ((first | apply q_call rfl | apply qg_call (by rfl)); (· intro W eW; go_simp; (first | done | (constructor <;> rfl))); (· intro W eW; exact laws_eqSnap_c (x := x) (y := y) _ ⟨_, rfl, g01, g11.ext ((he.trans eW))⟩ ⟨_, rfl, g02, g12.ext ((he.trans eW))⟩); (try simp only [Act.put, List.setIfInBounds_toArray, List.set_cons_zero, List.set_cons_succ]))
        repeat (first | (apply q_plain rfl; (· intro W eW; go_simp; (first | done | rfl | (rw [if_pos] <;> first | omega | rfl))); (try simp only [Act.put, List.setIfInBounds_toArray, List.set_cons_zero, List.set_cons_succ])) | (refine qg_skip (by rfl) ?_; (try simp only [Act.put, List.setIfInBounds_toArray, List.set_cons_zero, List.set_cons_succ])) | (apply qg_plain (by rfl); (· intro W eW; go_simp; (first | done | rfl | (rw [if_pos] <;> first | omega | rfl))); (try simp only [Act.put, List.setIfInBounds_toArray, List.set_cons_zero, List.set_cons_succ])))
        refine q_nil ?_
        intro w2 e2
        have e3 := he.trans e2
        clear a0 d0 a1 d1
        go_wp2
        · have hxy : eqb x y = false := by have q : (!eqb x y) = true := by assumption
                                           simpa using q
          go_ret
          exact ⟨ret_eqb (by simp [ne_of_get Hx.out Hy.out (eqb_false.1 hxy)]), e3⟩
        · have hxy : eqb x y = true := by have q : (!eqb x y) = false := by assumption
                                          simpa using q
          have hxy : x = y := eqb_true.1 hxy
          go_roundw
          case rel => exact ⟨k + 1, by omega, by go_num, e3, Hal.out.succ Hx.out (by rw [Hy.out, hxy])⟩
          case measure => simp [intOf]; omega
      · have : k = n := by omega
        subst this
        have hal := Lib.hid hal
        go_wp2
        go_ret
        exact ⟨ret_eqb (by simp [eq_of_get Hn.out Hm.out hal.out]), he⟩
  · have hne' : ((n : Int) != (m : Int)) = true := by simp; omega
    go_enter Tryd.func23, Tryd.ntmps23
    go_wp2
    go_ret
    refine ⟨ret_eqb ?_, Ext.refl w⟩
    have : xs ≠ ys := by rintro rfl; exact hne (Hn.out.symm.trans Hm.out)
    simp [this]
end Go.Sf
