/- The reference's blocks and stores. -/
import Derived.Test.YtpldhlpegpgmcaaDoorGD
import Derived.Test.YtpldhlpegpgmcaaDoorP20
/-! The reference's blocks and stores. -/
namespace Go.Sf
open Go Go.RowKit Go.Proofs
theorem all_take {α : Type} {p : α → Bool} {l : List α} {k : Nat} {x : α} (h : (l.take k).all p = true) (hx : l[k]? = some x) (hp : p x = true) : (l.take (k + 1)).all p = true := by
  rw [List.take_add_one, hx, Option.toList_some, List.all_append, h]; simp [hp]
theorem all_bad {α : Type} {p : α → Bool} {l : List α} {k : Nat} {x : α} (hx : l[k]? = some x) (hp : p x = false) : l.all p = false := by
  rw [List.all_eq_false]; exact ⟨x, List.mem_of_getElem? hx, by simp [hp]⟩
theorem all_end {α : Type} {p : α → Bool} {l : List α} {k : Nat} (h : (l.take k).all p = true) (hk : l.length = k) : l.all p = true := by
  rwa [List.take_of_length_le (by omega)] at h
set_option maxHeartbeats 1000000 in
theorem specBlockValid_c {B : Nat} {v : Value} {bs : List Int} (w : World) (h : Ints B w v bs) : Calls Tryd.prog 23 #[v] w (Ret (.bool (blockOk bs)) w) := by
  obtain ⟨A, c, rfl, hA⟩ := h
  have hl := hA.2.2.1
  unfold lim at hl
  generalize hn : bs.length = n at *
  have Hn := Lib.hid hn; clear hn
  have HA := Lib.hid hA; clear hA
  go_enter Tryd.func23, Tryd.ntmps23
  go_wp2
  go_loopw [3] (fun i wr => ∃ k : Nat, k ≤ n ∧ i = .int .i64 k ∧ Ext w wr ∧ Hid ((bs.take k).all byteOk = true)) (fun i _ => n - (intOf i).toNat)
  case atStart => exact ⟨0, by omega, rfl, Ext.refl _, Lib.hid rfl⟩
  case round =>
    obtain ⟨k, hk, rfl, he, hall⟩ := hrel
    by_cases hlt : k < n
    · obtain ⟨x, hx⟩ := get_of_lt (l := bs) (k := k) (by rw [Hn.out]; exact hlt)
      obtain ⟨b, o, rfl, -, -, -, hc⟩ := Ints.at_ HA.out hx
      have a0 := hc wr he
      have Hx := Lib.hid hx
      have Cl := l6In_c x 0 255 wr
      clear hc hx
      cases hb : inB x 0 255 with
      | false =>
        rw [hb] at Cl
        have Hr : Hid (blockOk bs = false) := Lib.hid (by unfold blockOk; rw [all_bad Hx.out hb]; rfl)
        clear hb hall
        go_wp2_with (go_at_call 22; refine Cl.mono ?_; rintro e w2 ⟨rfl, he2⟩)
        go_ret
        exact ⟨ret_b Hr.out.symm, he.trans he2⟩
      | true =>
        rw [hb] at Cl
        have Hr := Lib.hid (all_take hall.out Hx.out hb)
        clear hb hall
        go_wp2_with (go_at_call 22; refine Cl.mono ?_; rintro e w2 ⟨rfl, he2⟩)
        go_roundw
        case rel => exact ⟨k + 1, by omega, by go_num, he.trans he2, Hr⟩
        case measure => simp [intOf]; omega
    · have hks : k = n := by omega
      subst hks
      have Hr : Hid (inB k 1 8 = blockOk bs) := Lib.hid (by unfold blockOk; rw [all_end hall.out Hn.out, Hn.out]; rfl)
      clear hall
      go_wp2_with (go_at_call 22; refine (l6In_c _ _ _ _).mono ?_; rintro e w2 ⟨rfl, he2⟩)
      go_ret
      exact ⟨ret_b Hr.out, he.trans he2⟩
set_option maxHeartbeats 1000000 in
theorem l3At_c {B : Nat} {v : Value} {l : List Hd} (p : Int) (w : World) (h : Hds B w v l) : Calls Tryd.prog 42 #[v, .int .i64 p] w (Ret (.int .i64 (hAt l p)) w) := by
  obtain ⟨A, c, rfl, hA⟩ := h
  have hl := hA.2.2.1
  unfold lim at hl
  generalize hn : l.length = n at *
  have Hn := Lib.hid hn; clear hn
  have HA := Lib.hid hA; clear hA
  go_enter Tryd.func42, Tryd.ntmps42
  go_wp2
  go_loopw [5] (fun i wr => ∃ k : Nat, k ≤ n ∧ i = .int .i64 k ∧ Ext w wr ∧ Hid (hAt l p = atG (idIs p) (l.drop k) k)) (fun i _ => n - (intOf i).toNat)
  case atStart => exact ⟨0, by omega, rfl, Ext.refl _, Lib.hid (by simp [hAt])⟩
  case round =>
    obtain ⟨k, hk, rfl, he, hr⟩ := hrel
    by_cases hlt : k < n
    · obtain ⟨x, hx⟩ := get_of_lt (l := l) (k := k) (by rw [Hn.out]; exact hlt)
      obtain ⟨b, o, u, rfl, -, -, -, -, -, hc0, -, -⟩ := Hds.at_ HA.out hx
      have a0 := hc0 wr he
      have hd := drop_cons hx
      by_cases hxp : x.id = p
      · have Hr : Hid (hAt l p = (k : Int)) := Lib.hid (by rw [hr.out, hd, atG, if_pos (by rw [idIs, eqb_true.2 hxp])])
        have hb : (x.id == p) = true := by simpa using hxp
        clear hr hd hx hc0
        go_wp2
        go_ret
        exact ⟨ret_i Hr.out.symm, he⟩
      · have Hr : Hid (hAt l p = atG (idIs p) (l.drop (k + 1)) (k + 1)) := Lib.hid (by rw [hr.out, hd, atG, if_neg (by rw [idIs, eqb_false.2 hxp]; simp)])
        have hb : (x.id == p) = false := by simpa using hxp
        clear hr hd hx hc0
        go_wp2
        go_roundw
        case rel => exact ⟨k + 1, by omega, by go_num, he, Hr⟩
        case measure => simp [intOf]; omega
    · have hks : k = n := by omega
      subst hks
      have Hr : Hid (hAt l p = -1) := Lib.hid (by rw [hr.out, List.drop_eq_nil_of_le (by rw [Hn.out]; exact Nat.le_refl _)]; rfl)
      clear hr
      go_wp2
      go_ret
      exact ⟨ret_i Hr.out.symm, he⟩
end Go.Sf

/-! The reference's stores and volumes. -/
namespace Go.Sf
open Go Go.RowKit Go.Proofs
theorem store_bad {l : List Hd} {k : Nat} {x : Hd} (hx : l[k]? = some x) (h : ¬ HdAt l k x) : storeOk l = false := storeOk_false.2 fun hs => h (hs.2 k x hx)
theorem hd_bad {l : List Hd} {k : Nat} {x : Hd} (h : hdOk x = false) : ¬ HdAt l k x := fun hh => by have := hh.1; rw [h] at this; cases this
set_option maxRecDepth 4000 in
set_option maxHeartbeats 4000000 in
theorem specStoreValid_c {B : Nat} {v : Value} {l : List Hd} (w : World) (h : Hds B w v l) : Calls Tryd.prog 12 #[v] w (Ret (.bool (storeOk l)) w) := by
  obtain ⟨A, c, rfl, hA⟩ := h
  have hl := hA.2.2.1
  unfold lim at hl
  generalize hn : l.length = n at *
  have Hn := Lib.hid hn; clear hn
  have HA := Lib.hid hA; clear hA
  go_enter Tryd.func12, Tryd.ntmps12
  go_wp2
  go_loopw [3] (fun i wr => ∃ k : Nat, k ≤ n ∧ i = .int .i64 k ∧ Ext w wr ∧ Hid (∀ j h, j < k → l[j]? = some h → HdAt l j h)) (fun i _ => n - (intOf i).toNat)
  case atStart => exact ⟨0, by omega, rfl, Ext.refl _, Lib.hid fun j h hj => absurd hj (by omega)⟩
  case round =>
    obtain ⟨k, hk, rfl, he, hall⟩ := hrel
    by_cases hlt : k < n
    · obtain ⟨x, hx⟩ := get_of_lt (l := l) (k := k) (by rw [Hn.out]; exact hlt)
      obtain ⟨b, o, u1, rfl, -, -, hki, hu, hku, hc0, hc1, hc2⟩ := Hds.at_ HA.out hx
      obtain ⟨Ax, cx, rfl, hux⟩ := hu
      have Hx := Lib.hid hx
      obtain ⟨xk, xb, xu⟩ := x
      simp only at hki hku hux hc0 hc1 hc2
      have q0 := hc0 wr he; have q1 := hc1 wr he; have q2 := hc2 wr he
      have HI : Hid (∀ W, Ext wr W → Ints B W (.slice Ax xb.length cx) xb) := Lib.hid fun W e => Ints.ext (w := w) ⟨_, _, rfl, hux⟩ (he.trans e)
      have hbk := Blk.new wr 31 #[.int .i64 xk, .slice Ax xb.length cx, .int .i64 xu]
      have d0 := fun W (e : Ext _ W) => hbk.at_ (i := 0) (u := .int .i64 xk) rfl W e
      have d1 := fun W (e : Ext _ W) => hbk.at_ (i := 1) (u := .slice Ax xb.length cx) rfl W e
      have d2 := fun W (e : Ext _ W) => hbk.at_ (i := 2) (u := .int .i64 xu) rfl W e
      have ea : Ext wr (wr.alloc (.cells #[.int .i64 xk, .slice Ax xb.length cx, .int .i64 xu] 31)) := (Ext.refl wr).alloc _
      have C1 := fun W => l6In_c xk 1 99 W
      have C2 := fun W (e : Ext (wr.alloc (.cells #[.int .i64 xk, .slice Ax xb.length cx, .int .i64 xu] 31)) W) => specBlockValid_c W (HI.out W (ea.trans e))
      have C3 := fun W => l6In_c xu 1 999 W
      clear hc0 hc1 hc2 hx hux hbk
      cases h1 : inB xk 1 99 with
      | false =>
        have Hr := Lib.hid (store_bad Hx.out (hd_bad (by simp [hdOk, h1])))
        rw [h1] at C1
        clear h1 hall C2 C3
        go_wp2
        refine wp_region_ext (by kernel_rfl) (by kernel_rfl) ?_
        repeat (first | (apply q_plain rfl; (· intro W eW; go_simp; (first | done | rfl | (rw [if_pos] <;> first | omega | rfl))); (try simp only [Act.put, List.setIfInBounds_toArray, List.set_cons_zero, List.set_cons_succ])) | (refine qg_skip (by rfl) ?_; (try simp only [Act.put, List.setIfInBounds_toArray, List.set_cons_zero, List.set_cons_succ])) | (apply qg_plain (by rfl); (· intro W eW; go_simp; (first | done | rfl | (rw [if_pos] <;> first | omega | rfl))); (try simp only [Act.put, List.setIfInBounds_toArray, List.set_cons_zero, List.set_cons_succ])))
        ((first | apply q_call rfl | apply qg_call (by rfl)); (· intro W eW; go_simp; (first | done | (constructor <;> rfl))); (· intro W eW; exact C1 W); (try simp only [Act.put, List.setIfInBounds_toArray, List.set_cons_zero, List.set_cons_succ]))
        repeat (first | (apply q_plain rfl; (· intro W eW; go_simp; (first | done | rfl | (rw [if_pos] <;> first | omega | rfl))); (try simp only [Act.put, List.setIfInBounds_toArray, List.set_cons_zero, List.set_cons_succ])) | (refine qg_skip (by rfl) ?_; (try simp only [Act.put, List.setIfInBounds_toArray, List.set_cons_zero, List.set_cons_succ])) | (apply qg_plain (by rfl); (· intro W eW; go_simp; (first | done | rfl | (rw [if_pos] <;> first | omega | rfl))); (try simp only [Act.put, List.setIfInBounds_toArray, List.set_cons_zero, List.set_cons_succ])))
        refine q_nil ?_
        intro w2 e2
        go_wp2
        go_ret
        exact ⟨ret_b Hr.out.symm, he.trans (ea.trans e2)⟩
      | true =>
      cases h2 : blockOk xb with
      | false =>
        have Hr := Lib.hid (store_bad Hx.out (hd_bad (by simp [hdOk, h2])))
        rw [h1] at C1; rw [h2] at C2
        clear h1 h2 hall C3
        go_wp2
        refine wp_region_ext (by kernel_rfl) (by kernel_rfl) ?_
        repeat (first | (apply q_plain rfl; (· intro W eW; go_simp; (first | done | rfl | (rw [if_pos] <;> first | omega | rfl))); (try simp only [Act.put, List.setIfInBounds_toArray, List.set_cons_zero, List.set_cons_succ])) | (refine qg_skip (by rfl) ?_; (try simp only [Act.put, List.setIfInBounds_toArray, List.set_cons_zero, List.set_cons_succ])) | (apply qg_plain (by rfl); (· intro W eW; go_simp; (first | done | rfl | (rw [if_pos] <;> first | omega | rfl))); (try simp only [Act.put, List.setIfInBounds_toArray, List.set_cons_zero, List.set_cons_succ])))
        ((first | apply q_call rfl | apply qg_call (by rfl)); (· intro W eW; go_simp; (first | done | (constructor <;> rfl))); (· intro W eW; exact C1 W); (try simp only [Act.put, List.setIfInBounds_toArray, List.set_cons_zero, List.set_cons_succ]))
        repeat (first | (apply q_plain rfl; (· intro W eW; go_simp; (first | done | rfl | (rw [if_pos] <;> first | omega | rfl))); (try simp only [Act.put, List.setIfInBounds_toArray, List.set_cons_zero, List.set_cons_succ])) | (refine qg_skip (by rfl) ?_; (try simp only [Act.put, List.setIfInBounds_toArray, List.set_cons_zero, List.set_cons_succ])) | (apply qg_plain (by rfl); (· intro W eW; go_simp; (first | done | rfl | (rw [if_pos] <;> first | omega | rfl))); (try simp only [Act.put, List.setIfInBounds_toArray, List.set_cons_zero, List.set_cons_succ])))
        ((first | apply q_call rfl | apply qg_call (by rfl)); (· intro W eW; go_simp; (first | done | (constructor <;> rfl))); (· intro W eW; exact C2 W eW); (try simp only [Act.put, List.setIfInBounds_toArray, List.set_cons_zero, List.set_cons_succ]))
        repeat (first | (apply q_plain rfl; (· intro W eW; go_simp; (first | done | rfl | (rw [if_pos] <;> first | omega | rfl))); (try simp only [Act.put, List.setIfInBounds_toArray, List.set_cons_zero, List.set_cons_succ])) | (refine qg_skip (by rfl) ?_; (try simp only [Act.put, List.setIfInBounds_toArray, List.set_cons_zero, List.set_cons_succ])) | (apply qg_plain (by rfl); (· intro W eW; go_simp; (first | done | rfl | (rw [if_pos] <;> first | omega | rfl))); (try simp only [Act.put, List.setIfInBounds_toArray, List.set_cons_zero, List.set_cons_succ])))
        refine q_nil ?_
        intro w2 e2
        go_wp2
        go_ret
        exact ⟨ret_b Hr.out.symm, he.trans (ea.trans e2)⟩
      | true =>
      cases h3 : inB xu 1 999 with
      | false =>
        have Hr := Lib.hid (store_bad Hx.out (hd_bad (by simp [hdOk, h3])))
        rw [h1] at C1; rw [h2] at C2; rw [h3] at C3
        clear h1 h2 h3 hall
        go_wp2
        refine wp_region_ext (by kernel_rfl) (by kernel_rfl) ?_
        repeat (first | (apply q_plain rfl; (· intro W eW; go_simp; (first | done | rfl | (rw [if_pos] <;> first | omega | rfl))); (try simp only [Act.put, List.setIfInBounds_toArray, List.set_cons_zero, List.set_cons_succ])) | (refine qg_skip (by rfl) ?_; (try simp only [Act.put, List.setIfInBounds_toArray, List.set_cons_zero, List.set_cons_succ])) | (apply qg_plain (by rfl); (· intro W eW; go_simp; (first | done | rfl | (rw [if_pos] <;> first | omega | rfl))); (try simp only [Act.put, List.setIfInBounds_toArray, List.set_cons_zero, List.set_cons_succ])))
        ((first | apply q_call rfl | apply qg_call (by rfl)); (· intro W eW; go_simp; (first | done | (constructor <;> rfl))); (· intro W eW; exact C1 W); (try simp only [Act.put, List.setIfInBounds_toArray, List.set_cons_zero, List.set_cons_succ]))
        repeat (first | (apply q_plain rfl; (· intro W eW; go_simp; (first | done | rfl | (rw [if_pos] <;> first | omega | rfl))); (try simp only [Act.put, List.setIfInBounds_toArray, List.set_cons_zero, List.set_cons_succ])) | (refine qg_skip (by rfl) ?_; (try simp only [Act.put, List.setIfInBounds_toArray, List.set_cons_zero, List.set_cons_succ])) | (apply qg_plain (by rfl); (· intro W eW; go_simp; (first | done | rfl | (rw [if_pos] <;> first | omega | rfl))); (try simp only [Act.put, List.setIfInBounds_toArray, List.set_cons_zero, List.set_cons_succ])))
        ((first | apply q_call rfl | apply qg_call (by rfl)); (· intro W eW; go_simp; (first | done | (constructor <;> rfl))); (· intro W eW; exact C2 W eW); (try simp only [Act.put, List.setIfInBounds_toArray, List.set_cons_zero, List.set_cons_succ]))
        repeat (first | (apply q_plain rfl; (· intro W eW; go_simp; (first | done | rfl | (rw [if_pos] <;> first | omega | rfl))); (try simp only [Act.put, List.setIfInBounds_toArray, List.set_cons_zero, List.set_cons_succ])) | (refine qg_skip (by rfl) ?_; (try simp only [Act.put, List.setIfInBounds_toArray, List.set_cons_zero, List.set_cons_succ])) | (apply qg_plain (by rfl); (· intro W eW; go_simp; (first | done | rfl | (rw [if_pos] <;> first | omega | rfl))); (try simp only [Act.put, List.setIfInBounds_toArray, List.set_cons_zero, List.set_cons_succ])))
        ((first | apply q_call rfl | apply qg_call (by rfl)); (· intro W eW; go_simp; (first | done | (constructor <;> rfl))); (· intro W eW; exact C3 W); (try simp only [Act.put, List.setIfInBounds_toArray, List.set_cons_zero, List.set_cons_succ]))
        repeat (first | (apply q_plain rfl; (· intro W eW; go_simp; (first | done | rfl | (rw [if_pos] <;> first | omega | rfl))); (try simp only [Act.put, List.setIfInBounds_toArray, List.set_cons_zero, List.set_cons_succ])) | (refine qg_skip (by rfl) ?_; (try simp only [Act.put, List.setIfInBounds_toArray, List.set_cons_zero, List.set_cons_succ])) | (apply qg_plain (by rfl); (· intro W eW; go_simp; (first | done | rfl | (rw [if_pos] <;> first | omega | rfl))); (try simp only [Act.put, List.setIfInBounds_toArray, List.set_cons_zero, List.set_cons_succ])))
        refine q_nil ?_
        intro w2 e2
        go_wp2
        go_ret
        exact ⟨ret_b Hr.out.symm, he.trans (ea.trans e2)⟩
      | true =>
      have Hok : Hid (hdOk ⟨xk, xb, xu⟩ = true) := Lib.hid (by simp [hdOk, h1, h2, h3])
      rw [h1] at C1; rw [h2] at C2; rw [h3] at C3
      clear h1 h2 h3
      rcases k with _ | j
      · have Hst : Hid (∀ j y, (0 : Nat) = j + 1 → l[j]? = some y → y.id < xk) := Lib.hid fun j y e => by omega
        simp only [Nat.zero_mul, Nat.add_zero] at q0 q1 q2
        go_wp2
        refine wp_region_ext (by kernel_rfl) (by kernel_rfl) ?_
        repeat (first | (apply q_plain rfl; (· intro W eW; go_simp; (first | done | rfl | (rw [if_pos] <;> first | omega | rfl))); (try simp only [Act.put, List.setIfInBounds_toArray, List.set_cons_zero, List.set_cons_succ])) | (refine qg_skip (by rfl) ?_; (try simp only [Act.put, List.setIfInBounds_toArray, List.set_cons_zero, List.set_cons_succ])) | (apply qg_plain (by rfl); (· intro W eW; go_simp; (first | done | rfl | (rw [if_pos] <;> first | omega | rfl))); (try simp only [Act.put, List.setIfInBounds_toArray, List.set_cons_zero, List.set_cons_succ])))
        ((first | apply q_call rfl | apply qg_call (by rfl)); (· intro W eW; go_simp; (first | done | (constructor <;> rfl))); (· intro W eW; exact C1 W); (try simp only [Act.put, List.setIfInBounds_toArray, List.set_cons_zero, List.set_cons_succ]))
        repeat (first | (apply q_plain rfl; (· intro W eW; go_simp; (first | done | rfl | (rw [if_pos] <;> first | omega | rfl))); (try simp only [Act.put, List.setIfInBounds_toArray, List.set_cons_zero, List.set_cons_succ])) | (refine qg_skip (by rfl) ?_; (try simp only [Act.put, List.setIfInBounds_toArray, List.set_cons_zero, List.set_cons_succ])) | (apply qg_plain (by rfl); (· intro W eW; go_simp; (first | done | rfl | (rw [if_pos] <;> first | omega | rfl))); (try simp only [Act.put, List.setIfInBounds_toArray, List.set_cons_zero, List.set_cons_succ])))
        ((first | apply q_call rfl | apply qg_call (by rfl)); (· intro W eW; go_simp; (first | done | (constructor <;> rfl))); (· intro W eW; exact C2 W eW); (try simp only [Act.put, List.setIfInBounds_toArray, List.set_cons_zero, List.set_cons_succ]))
        repeat (first | (apply q_plain rfl; (· intro W eW; go_simp; (first | done | rfl | (rw [if_pos] <;> first | omega | rfl))); (try simp only [Act.put, List.setIfInBounds_toArray, List.set_cons_zero, List.set_cons_succ])) | (refine qg_skip (by rfl) ?_; (try simp only [Act.put, List.setIfInBounds_toArray, List.set_cons_zero, List.set_cons_succ])) | (apply qg_plain (by rfl); (· intro W eW; go_simp; (first | done | rfl | (rw [if_pos] <;> first | omega | rfl))); (try simp only [Act.put, List.setIfInBounds_toArray, List.set_cons_zero, List.set_cons_succ])))
        ((first | apply q_call rfl | apply qg_call (by rfl)); (· intro W eW; go_simp; (first | done | (constructor <;> rfl))); (· intro W eW; exact C3 W); (try simp only [Act.put, List.setIfInBounds_toArray, List.set_cons_zero, List.set_cons_succ]))
        repeat (first | (apply q_plain rfl; (· intro W eW; go_simp; (first | done | rfl | (rw [if_pos] <;> first | omega | rfl))); (try simp only [Act.put, List.setIfInBounds_toArray, List.set_cons_zero, List.set_cons_succ])) | (refine qg_skip (by rfl) ?_; (try simp only [Act.put, List.setIfInBounds_toArray, List.set_cons_zero, List.set_cons_succ])) | (apply qg_plain (by rfl); (· intro W eW; go_simp; (first | done | rfl | (rw [if_pos] <;> first | omega | rfl))); (try simp only [Act.put, List.setIfInBounds_toArray, List.set_cons_zero, List.set_cons_succ])))
        refine q_nil ?_
        intro w2 e2
        have e3 := ea.trans e2
        have Hn' : Hid (∀ j h, j < 0 + 1 → l[j]? = some h → HdAt l j h) := Lib.hid fun j h hj hh => by
          obtain rfl : j = 0 := by omega
          rw [Hx.out] at hh
          cases hh
          exact ⟨Hok.out, Hst.out, fun j y h => absurd h (by omega)⟩
        clear C1 C2 C3 q0 q1 q2 d0 d1 d2 ea e2 Hst
        go_wp2
        go_loopw [5] (fun i wr' => i = .int .i64 0 ∧ Ext wr wr') (fun i _ => 0)
        case atStart => exact ⟨rfl, e3⟩
        case round =>
          obtain ⟨rfl, he5⟩ := hrel
          go_wp2
          go_roundw
          case rel => exact ⟨0 + 1, by omega, by go_num, he.trans he5, Hn'⟩
          case measure => simp [intOf]; omega
      · obtain ⟨y, hy⟩ := get_of_lt (l := l) (k := j) (by rw [Hn.out]; omega)
        obtain ⟨b', o', u', e', -, -, -, -, -, hy0, -, -⟩ := Hds.at_ HA.out hy
        simp only [Option.some.injEq, Addr.mk.injEq, and_true] at e'
        obtain ⟨rfl, rfl⟩ := e'
        have c0 := fun W (h : Ext (wr.alloc (.cells #[.int .i64 xk, .slice Ax xb.length cx, .int .i64 xu] 31)) W) => hy0 W (he.trans (ea.trans h))
        have Hy := Lib.hid hy
        have hjn : j < n := by omega
        have hwj : IntKind.i64.wrap (j : Int) = (j : Int) := IntWalk.i64_in _ (by omega)
        clear hy0 hy
        obtain ⟨yk, yb, yu⟩ := y
        simp only at c0
        by_cases hasc : yk < xk
        · have hge : ¬ (xk ≤ yk) := by omega
          have Hst : Hid (∀ i z, j + 1 = i + 1 → l[i]? = some z → z.id < xk) := Lib.hid fun i z e hz => by
            obtain rfl : i = j := by omega
            rw [Hy.out] at hz
            cases hz; exact hasc
          go_wp2
          refine wp_region_ext (by kernel_rfl) (by kernel_rfl) ?_
          repeat (first | (apply q_plain rfl; (· intro W eW; go_simp; (first | done | rfl | (rw [if_pos] <;> first | omega | rfl))); (try simp only [Act.put, List.setIfInBounds_toArray, List.set_cons_zero, List.set_cons_succ])) | (refine qg_skip (by rfl) ?_; (try simp only [Act.put, List.setIfInBounds_toArray, List.set_cons_zero, List.set_cons_succ])) | (apply qg_plain (by rfl); (· intro W eW; go_simp; (first | done | rfl | (rw [if_pos] <;> first | omega | rfl))); (try simp only [Act.put, List.setIfInBounds_toArray, List.set_cons_zero, List.set_cons_succ])))
          ((first | apply q_call rfl | apply qg_call (by rfl)); (· intro W eW; go_simp; (first | done | (constructor <;> rfl))); (· intro W eW; exact C1 W); (try simp only [Act.put, List.setIfInBounds_toArray, List.set_cons_zero, List.set_cons_succ]))
          repeat (first | (apply q_plain rfl; (· intro W eW; go_simp; (first | done | rfl | (rw [if_pos] <;> first | omega | rfl))); (try simp only [Act.put, List.setIfInBounds_toArray, List.set_cons_zero, List.set_cons_succ])) | (refine qg_skip (by rfl) ?_; (try simp only [Act.put, List.setIfInBounds_toArray, List.set_cons_zero, List.set_cons_succ])) | (apply qg_plain (by rfl); (· intro W eW; go_simp; (first | done | rfl | (rw [if_pos] <;> first | omega | rfl))); (try simp only [Act.put, List.setIfInBounds_toArray, List.set_cons_zero, List.set_cons_succ])))
          ((first | apply q_call rfl | apply qg_call (by rfl)); (· intro W eW; go_simp; (first | done | (constructor <;> rfl))); (· intro W eW; exact C2 W eW); (try simp only [Act.put, List.setIfInBounds_toArray, List.set_cons_zero, List.set_cons_succ]))
          repeat (first | (apply q_plain rfl; (· intro W eW; go_simp; (first | done | rfl | (rw [if_pos] <;> first | omega | rfl))); (try simp only [Act.put, List.setIfInBounds_toArray, List.set_cons_zero, List.set_cons_succ])) | (refine qg_skip (by rfl) ?_; (try simp only [Act.put, List.setIfInBounds_toArray, List.set_cons_zero, List.set_cons_succ])) | (apply qg_plain (by rfl); (· intro W eW; go_simp; (first | done | rfl | (rw [if_pos] <;> first | omega | rfl))); (try simp only [Act.put, List.setIfInBounds_toArray, List.set_cons_zero, List.set_cons_succ])))
          ((first | apply q_call rfl | apply qg_call (by rfl)); (· intro W eW; go_simp; (first | done | (constructor <;> rfl))); (· intro W eW; exact C3 W); (try simp only [Act.put, List.setIfInBounds_toArray, List.set_cons_zero, List.set_cons_succ]))
          repeat (first | (apply q_plain rfl; (· intro W eW; go_simp; (first | done | rfl | (rw [if_pos] <;> first | omega | rfl))); (try simp only [Act.put, List.setIfInBounds_toArray, List.set_cons_zero, List.set_cons_succ])) | (refine qg_skip (by rfl) ?_; (try simp only [Act.put, List.setIfInBounds_toArray, List.set_cons_zero, List.set_cons_succ])) | (apply qg_plain (by rfl); (· intro W eW; go_simp; (first | done | rfl | (rw [if_pos] <;> first | omega | rfl))); (try simp only [Act.put, List.setIfInBounds_toArray, List.set_cons_zero, List.set_cons_succ])))
          refine q_nil ?_
          intro w2 e2
          have e3 := ea.trans e2
          have D1 : ∀ W, Ext w2 W → W.cell? ⟨wr.heap.size, 1, none⟩ = some (.slice Ax xb.length cx) := fun W e => d1 W (e2.trans e)
          clear C1 C2 C3 q0 q1 q2 d0 d1 d2 ea c0 hasc hwj
          go_wp2
          go_loopw [5] (fun i wr' => ∃ m : Nat, m ≤ j + 1 ∧ i = .int .i64 m ∧ Ext w2 wr' ∧ Hid (∀ i z, i < m → l[i]? = some z → z.bytes ≠ xb)) (fun i _ => j + 1 - (intOf i).toNat)
          case atStart => exact ⟨0, by omega, rfl, Ext.refl _, Lib.hid fun i z h => absurd h (by omega)⟩
          case round =>
            obtain ⟨m, hm, rfl, he5, hdif⟩ := hrel
            by_cases hml : m < j + 1
            · obtain ⟨z, hz⟩ := get_of_lt (l := l) (k := m) (by rw [Hn.out]; omega)
              obtain ⟨b', o', u', e', -, -, -, hzi, -, -, hz1, -⟩ := Hds.at_ HA.out hz
              simp only [Option.some.injEq, Addr.mk.injEq, and_true] at e'
              obtain ⟨rfl, rfl⟩ := e'
              obtain ⟨Az, cz, rfl, hzI⟩ := hzi
              have Hz := Lib.hid hz
              obtain ⟨zk, zb, zu⟩ := z
              simp only at hz1 hzI
              have e6 := he.trans (e3.trans he5)
              have z1 := fun W (h : Ext _ W) => hz1 W (e6.trans h)
              have D2 := fun W (h : Ext _ W) => D1 W (he5.trans h)
              have Cs := fun W (h : Ext _ W) => spec_l2Same_c W (Ints.ext (w := w) ⟨_, _, rfl, hzI⟩ (e6.trans h)) (HI.out W (e3.trans (he5.trans h)))
              have hmn : m < n := by omega
              clear hz1 hz hzI
              cases hs : eqb zb xb with
              | true =>
                have Hr := Lib.hid (store_bad Hx.out (fun hh => hh.2.2 m ⟨zk, zb, zu⟩ hml Hz.out (eqb_true.1 hs)))
                rw [hs] at Cs
                clear hs hdif hall
                go_wp2
                refine wp_region_ext (by kernel_rfl) (by kernel_rfl) ?_
                repeat (first | (apply q_plain rfl; (· intro W eW; go_simp; (first | done | rfl | (rw [if_pos] <;> first | omega | rfl))); (try simp only [Act.put, List.setIfInBounds_toArray, List.set_cons_zero, List.set_cons_succ])) | (refine qg_skip (by rfl) ?_; (try simp only [Act.put, List.setIfInBounds_toArray, List.set_cons_zero, List.set_cons_succ])) | (apply qg_plain (by rfl); (· intro W eW; go_simp; (first | done | rfl | (rw [if_pos] <;> first | omega | rfl))); (try simp only [Act.put, List.setIfInBounds_toArray, List.set_cons_zero, List.set_cons_succ])))
                ((first | apply q_call rfl | apply qg_call (by rfl)); (· intro W eW; go_simp; (first | done | (constructor <;> rfl))); (· intro W eW; exact Cs W eW); (try simp only [Act.put, List.setIfInBounds_toArray, List.set_cons_zero, List.set_cons_succ]))
                repeat (first | (apply q_plain rfl; (· intro W eW; go_simp; (first | done | rfl | (rw [if_pos] <;> first | omega | rfl))); (try simp only [Act.put, List.setIfInBounds_toArray, List.set_cons_zero, List.set_cons_succ])) | (refine qg_skip (by rfl) ?_; (try simp only [Act.put, List.setIfInBounds_toArray, List.set_cons_zero, List.set_cons_succ])) | (apply qg_plain (by rfl); (· intro W eW; go_simp; (first | done | rfl | (rw [if_pos] <;> first | omega | rfl))); (try simp only [Act.put, List.setIfInBounds_toArray, List.set_cons_zero, List.set_cons_succ])))
                refine q_nil ?_
                intro w7 e7
                go_wp2
                go_ret
                exact ⟨ret_b Hr.out.symm, e6.trans e7⟩
              | false =>
                have Hr : Hid (∀ i z, i < m + 1 → l[i]? = some z → z.bytes ≠ xb) := Lib.hid fun i z hi hz => by
                  rcases Nat.lt_or_ge i m with h | h
                  · exact hdif.out i z h hz
                  · obtain rfl : i = m := by omega
                    rw [Hz.out] at hz
                    cases hz; exact eqb_false.1 hs
                rw [hs] at Cs
                clear hs hdif
                go_wp2
                refine wp_region_ext (by kernel_rfl) (by kernel_rfl) ?_
                repeat (first | (apply q_plain rfl; (· intro W eW; go_simp; (first | done | rfl | (rw [if_pos] <;> first | omega | rfl))); (try simp only [Act.put, List.setIfInBounds_toArray, List.set_cons_zero, List.set_cons_succ])) | (refine qg_skip (by rfl) ?_; (try simp only [Act.put, List.setIfInBounds_toArray, List.set_cons_zero, List.set_cons_succ])) | (apply qg_plain (by rfl); (· intro W eW; go_simp; (first | done | rfl | (rw [if_pos] <;> first | omega | rfl))); (try simp only [Act.put, List.setIfInBounds_toArray, List.set_cons_zero, List.set_cons_succ])))
                ((first | apply q_call rfl | apply qg_call (by rfl)); (· intro W eW; go_simp; (first | done | (constructor <;> rfl))); (· intro W eW; exact Cs W eW); (try simp only [Act.put, List.setIfInBounds_toArray, List.set_cons_zero, List.set_cons_succ]))
                repeat (first | (apply q_plain rfl; (· intro W eW; go_simp; (first | done | rfl | (rw [if_pos] <;> first | omega | rfl))); (try simp only [Act.put, List.setIfInBounds_toArray, List.set_cons_zero, List.set_cons_succ])) | (refine qg_skip (by rfl) ?_; (try simp only [Act.put, List.setIfInBounds_toArray, List.set_cons_zero, List.set_cons_succ])) | (apply qg_plain (by rfl); (· intro W eW; go_simp; (first | done | rfl | (rw [if_pos] <;> first | omega | rfl))); (try simp only [Act.put, List.setIfInBounds_toArray, List.set_cons_zero, List.set_cons_succ])))
                refine q_nil ?_
                intro w7 e7
                go_wp2
                go_roundw
                case rel => exact ⟨m + 1, by omega, by go_num, he5.trans e7, Hr⟩
                case measure => simp [intOf]; omega
            · have hmj : m = j + 1 := by omega
              subst hmj
              have Hn' : Hid (∀ i h, i < j + 1 + 1 → l[i]? = some h → HdAt l i h) := Lib.hid fun i h hi hh => by
                rcases Nat.lt_or_ge i (j + 1) with h' | h'
                · exact hall.out i h h' hh
                · obtain rfl : i = j + 1 := by omega
                  rw [Hx.out] at hh
                  cases hh
                  exact ⟨Hok.out, Hst.out, hdif.out⟩
              clear hdif
              go_wp2
              go_roundw
              case rel => exact ⟨j + 1 + 1, by omega, by go_num, he.trans (e3.trans he5), Hn'⟩
              case measure => simp [intOf]; omega
        · have hge : xk ≤ yk := by omega
          have Hr := Lib.hid (store_bad Hx.out (fun hh => hasc (hh.2.1 j ⟨yk, yb, yu⟩ rfl Hy.out)))
          clear hall hasc
          go_wp2
          refine wp_region_ext (by kernel_rfl) (by kernel_rfl) ?_
          repeat (first | (apply q_plain rfl; (· intro W eW; go_simp; (first | done | rfl | (rw [if_pos] <;> first | omega | rfl))); (try simp only [Act.put, List.setIfInBounds_toArray, List.set_cons_zero, List.set_cons_succ])) | (refine qg_skip (by rfl) ?_; (try simp only [Act.put, List.setIfInBounds_toArray, List.set_cons_zero, List.set_cons_succ])) | (apply qg_plain (by rfl); (· intro W eW; go_simp; (first | done | rfl | (rw [if_pos] <;> first | omega | rfl))); (try simp only [Act.put, List.setIfInBounds_toArray, List.set_cons_zero, List.set_cons_succ])))
          ((first | apply q_call rfl | apply qg_call (by rfl)); (· intro W eW; go_simp; (first | done | (constructor <;> rfl))); (· intro W eW; exact C1 W); (try simp only [Act.put, List.setIfInBounds_toArray, List.set_cons_zero, List.set_cons_succ]))
          repeat (first | (apply q_plain rfl; (· intro W eW; go_simp; (first | done | rfl | (rw [if_pos] <;> first | omega | rfl))); (try simp only [Act.put, List.setIfInBounds_toArray, List.set_cons_zero, List.set_cons_succ])) | (refine qg_skip (by rfl) ?_; (try simp only [Act.put, List.setIfInBounds_toArray, List.set_cons_zero, List.set_cons_succ])) | (apply qg_plain (by rfl); (· intro W eW; go_simp; (first | done | rfl | (rw [if_pos] <;> first | omega | rfl))); (try simp only [Act.put, List.setIfInBounds_toArray, List.set_cons_zero, List.set_cons_succ])))
          ((first | apply q_call rfl | apply qg_call (by rfl)); (· intro W eW; go_simp; (first | done | (constructor <;> rfl))); (· intro W eW; exact C2 W eW); (try simp only [Act.put, List.setIfInBounds_toArray, List.set_cons_zero, List.set_cons_succ]))
          repeat (first | (apply q_plain rfl; (· intro W eW; go_simp; (first | done | rfl | (rw [if_pos] <;> first | omega | rfl))); (try simp only [Act.put, List.setIfInBounds_toArray, List.set_cons_zero, List.set_cons_succ])) | (refine qg_skip (by rfl) ?_; (try simp only [Act.put, List.setIfInBounds_toArray, List.set_cons_zero, List.set_cons_succ])) | (apply qg_plain (by rfl); (· intro W eW; go_simp; (first | done | rfl | (rw [if_pos] <;> first | omega | rfl))); (try simp only [Act.put, List.setIfInBounds_toArray, List.set_cons_zero, List.set_cons_succ])))
          ((first | apply q_call rfl | apply qg_call (by rfl)); (· intro W eW; go_simp; (first | done | (constructor <;> rfl))); (· intro W eW; exact C3 W); (try simp only [Act.put, List.setIfInBounds_toArray, List.set_cons_zero, List.set_cons_succ]))
          repeat (first | (apply q_plain rfl; (· intro W eW; go_simp; (first | done | rfl | (rw [if_pos] <;> first | omega | rfl))); (try simp only [Act.put, List.setIfInBounds_toArray, List.set_cons_zero, List.set_cons_succ])) | (refine qg_skip (by rfl) ?_; (try simp only [Act.put, List.setIfInBounds_toArray, List.set_cons_zero, List.set_cons_succ])) | (apply qg_plain (by rfl); (· intro W eW; go_simp; (first | done | rfl | (rw [if_pos] <;> first | omega | rfl))); (try simp only [Act.put, List.setIfInBounds_toArray, List.set_cons_zero, List.set_cons_succ])))
          refine q_nil ?_
          intro w2 e2
          go_wp2
          go_ret
          exact ⟨ret_b Hr.out.symm, he.trans (ea.trans e2)⟩
    · have hks : k = n := by omega
      subst hks
      have Hr : Hid (storeOk l = decide (k ≤ 16)) := Lib.hid (by
        rw [Bool.eq_iff_iff, storeOk_iff]
        simp only [decide_eq_true_eq]
        exact ⟨fun h => by have := h.1; have := Hn.out; omega, fun h => ⟨by have := Hn.out; omega, fun j y hy => hall.out j y (by have := lt_of_get hy; have := Hn.out; omega) hy⟩⟩)
      clear hall
      by_cases h16 : k ≤ 16
      · have h16' : ((k : Int) ≤ 16) := by omega
        go_wp2
        go_ret
        exact ⟨ret_b (by rw [Hr.out]; simp [h16]), he⟩
      · have h16' : ¬ ((k : Int) ≤ 16) := by omega
        go_wp2
        go_ret
        exact ⟨ret_b (by rw [Hr.out]; simp [h16]), he⟩
end Go.Sf

/-! The reference's volumes. -/
namespace Go.Sf
open Go Go.RowKit Go.Proofs
theorem fit_bad {l : List Hd} {ids : List Int} {k : Nat} {i : Int} (hx : ids[k]? = some i) (h : ∀ h, findH l i = some h → k + 1 < ids.length ∧ h.bytes.length < 8) : idsFit l ids = false := idsFit_false.2 fun hf => by
  obtain ⟨y, h1, h2⟩ := hf.2 k i hx
  obtain ⟨h3, h4⟩ := h y h1
  have := h2 h3
  omega
set_option maxRecDepth 4000 in
set_option maxHeartbeats 2000000 in
theorem l4Ids_c {B B' : Nat} {v vi : Value} {l : List Hd} {ids : List Int} (w : World) (h : Hds B w v l) (hi : Ints B' w vi ids) : Calls Tryd.prog 27 #[v, vi] w (Ret (.bool (idsFit l ids)) w) := by
  have H := Lib.hid h
  obtain ⟨A, c, rfl, hA⟩ := h
  obtain ⟨A2, c2, rfl, hA2⟩ := hi
  have hl := hA.2.2.1
  have hl2 := hA2.2.2.1
  unfold lim at hl hl2
  generalize hm : l.length = m at *
  generalize hn : ids.length = n at *
  have Hn := Lib.hid hn; clear hn
  have Hm := Lib.hid hm; clear hm
  have HA := Lib.hid hA; clear hA
  have HA2 := Lib.hid hA2; clear hA2
  go_enter Tryd.func27, Tryd.ntmps27
  go_wp2
  go_loopw [5] (fun i wr => ∃ k : Nat, k ≤ n ∧ i = .int .i64 k ∧ Ext w wr ∧ Hid (∀ j i, j < k → ids[j]? = some i → ∃ h, findH l i = some h ∧ (j + 1 < n → 8 ≤ h.bytes.length))) (fun i _ => n - (intOf i).toNat)
  case atStart => exact ⟨0, by omega, rfl, Ext.refl _, Lib.hid fun j i hj => absurd hj (by omega)⟩
  case round =>
    obtain ⟨k, hk, rfl, he, hall⟩ := hrel
    by_cases hlt : k < n
    · obtain ⟨x, hx⟩ := get_of_lt (l := ids) (k := k) (by rw [Hn.out]; exact hlt)
      obtain ⟨b, o, rfl, -, -, -, hc⟩ := Ints.at_ HA2.out hx
      have a0 := hc wr he
      have Hx := Lib.hid hx
      have Ca := l3At_c x wr (H.out.ext he)
      rw [hAt] at Ca
      clear hc hx
      rcases atG_find (idIs x) l 0 with ⟨f1, f2⟩ | ⟨i, y, f1, f2, f3, f4, -⟩
      · rw [f2] at Ca
        have Hr := Lib.hid (fit_bad (l := l) Hx.out fun h hh => by unfold findH at hh; rw [f1] at hh; cases hh)
        clear f1 f2 hall
        go_wp2_with (go_at_call 42; refine Ca.mono ?_; rintro e w2 ⟨rfl, he2⟩)
        go_ret
        exact ⟨ret_b Hr.out.symm, he.trans he2⟩
      · rw [f4] at Ca
        simp only [Nat.zero_add] at Ca
        have hi0 : ¬ ((i : Int) < 0) := by omega
        have him : i < m := by rw [← Hm.out]; exact lt_of_get f1
        obtain ⟨b', o', u, rfl, -, -, -, hu, -, -, hc1, -⟩ := Hds.at_ HA.out f1
        obtain ⟨Ay, cy, rfl, -⟩ := hu
        have c1 := fun W (e : Ext wr W) => hc1 W (he.trans e)
        have hw1 : IntKind.i64.wrap ((k : Int) + 1) = (k : Int) + 1 := IntWalk.i64_in _ (by omega)
        have Hf : Hid (findH l x = some y) := Lib.hid f3
        clear f1 f2 f3 f4 hc1
        obtain ⟨yk, yb, yu⟩ := y
        simp only at c1
        by_cases hk1 : k + 1 < n
        · have hk1' : (k : Int) + 1 < (n : Int) := by omega
          by_cases hb8 : yb.length < 8
          · have hb8' : ((yb.length : Nat) : Int) < 8 := by omega
            have Hr := Lib.hid (fit_bad (l := l) Hx.out fun h hh => by
              rw [Hf.out] at hh
              cases hh
              exact ⟨by rw [Hn.out]; exact hk1, hb8⟩)
            clear hall
            go_wp2_with (go_at_call 42; refine Ca.mono ?_; rintro e w2 ⟨rfl, he2⟩; have q1 := c1 w2 he2)
            go_ret
            exact ⟨ret_b Hr.out.symm, he.trans he2⟩
          · have hb8' : ¬ ((yb.length : Nat) : Int) < 8 := by omega
            have Hr : Hid (∀ j i, j < k + 1 → ids[j]? = some i → ∃ h, findH l i = some h ∧ (j + 1 < n → 8 ≤ h.bytes.length)) := Lib.hid fun j i hj hi => by
              rcases Nat.lt_or_ge j k with h | h
              · exact hall.out j i h hi
              · obtain rfl : j = k := by omega
                rw [Hx.out] at hi
                cases hi
                exact ⟨_, Hf.out, fun _ => by simp only; omega⟩
            clear hall
            go_wp2_with (go_at_call 42; refine Ca.mono ?_; rintro e w2 ⟨rfl, he2⟩; have q1 := c1 w2 he2)
            go_roundw
            case rel => exact ⟨k + 1, by omega, by go_num, he.trans he2, Hr⟩
            case measure => simp [intOf]; omega
        · have hk1' : ¬ (k : Int) + 1 < (n : Int) := by omega
          have Hr : Hid (∀ j i, j < k + 1 → ids[j]? = some i → ∃ h, findH l i = some h ∧ (j + 1 < n → 8 ≤ h.bytes.length)) := Lib.hid fun j i hj hi => by
            rcases Nat.lt_or_ge j k with h | h
            · exact hall.out j i h hi
            · obtain rfl : j = k := by omega
              rw [Hx.out] at hi
              cases hi
              exact ⟨_, Hf.out, fun h => absurd h hk1⟩
          clear hall
          go_wp2_with (go_at_call 42; refine Ca.mono ?_; rintro e w2 ⟨rfl, he2⟩; have q1 := c1 w2 he2)
          go_roundw
          case rel => exact ⟨k + 1, by omega, by go_num, he.trans he2, Hr⟩
          case measure => simp [intOf]; omega
    · have hks : k = n := by omega
      subst hks
      have Hr : Hid (idsFit l ids = decide (k ≤ 4)) := Lib.hid (by
        rw [Bool.eq_iff_iff, idsFit_iff]
        simp only [decide_eq_true_eq]
        refine ⟨fun h => by have := h.1; have := Hn.out; omega, fun h => ⟨by have := Hn.out; omega, fun j i hi => ?_⟩⟩
        obtain ⟨y, h1, h2⟩ := hall.out j i (by have := lt_of_get hi; have := Hn.out; omega) hi
        exact ⟨y, h1, fun hj => h2 (by have := Hn.out; omega)⟩)
      clear hall
      by_cases h4 : k ≤ 4
      · have h4' : ((k : Int) ≤ 4) := by omega
        go_wp2
        go_ret
        exact ⟨ret_b (by rw [Hr.out]; simp [h4]), he⟩
      · have h4' : ¬ ((k : Int) ≤ 4) := by omega
        go_wp2
        go_ret
        exact ⟨ret_b (by rw [Hr.out]; simp [h4]), he⟩
set_option maxRecDepth 4000 in
set_option maxHeartbeats 1000000 in
theorem l11Files_c {B B' : Nat} {v vt : Value} {l : List Hd} {t : List It} (w : World) (h : Hds B w v l) (ht : Its B' w vt t) : Calls Tryd.prog 14 #[v, vt] w (Ret (.bool (filesFit l t)) w) := by
  have H := Lib.hid h
  obtain ⟨A, c, rfl, -⟩ := h
  obtain ⟨A2, c2, rfl, hA2⟩ := ht
  have hl2 := hA2.2.2.1
  unfold lim at hl2
  generalize hn : t.length = n at *
  have Hn := Lib.hid hn; clear hn
  have HA2 := Lib.hid hA2; clear hA2
  go_enter Tryd.func14, Tryd.ntmps14
  go_wp2
  go_loopw [5] (fun i wr => ∃ k : Nat, k ≤ n ∧ i = .int .i64 k ∧ Ext w wr ∧ Hid ((t.take k).all (fun x => idsFit l x.ids) = true)) (fun i _ => n - (intOf i).toNat)
  case atStart => exact ⟨0, by omega, rfl, Ext.refl _, Lib.hid rfl⟩
  case round =>
    obtain ⟨k, hk, rfl, he, hall⟩ := hrel
    by_cases hlt : k < n
    · obtain ⟨x, hx⟩ := get_of_lt (l := t) (k := k) (by rw [Hn.out]; exact hlt)
      obtain ⟨b, o, u, rfl, -, -, -, hu, -, -, hc2⟩ := Its.at_ HA2.out hx
      have q2 := hc2 wr he
      have Hx := Lib.hid hx
      have Cl := l4Ids_c wr (H.out.ext he) (hu.ext he)
      obtain ⟨Au, cu, rfl, -⟩ := hu
      clear hc2 hx
      cases hf : idsFit l x.ids with
      | false =>
        rw [hf] at Cl
        have Hr : Hid (filesFit l t = false) := Lib.hid (all_bad Hx.out hf)
        clear hf hall
        go_wp2_with (go_at_call 27; refine Cl.mono ?_; rintro e w2 ⟨rfl, he2⟩)
        go_ret
        exact ⟨ret_b Hr.out.symm, he.trans he2⟩
      | true =>
        rw [hf] at Cl
        have Hr := Lib.hid (all_take hall.out Hx.out hf)
        clear hf hall
        go_wp2_with (go_at_call 27; refine Cl.mono ?_; rintro e w2 ⟨rfl, he2⟩)
        go_roundw
        case rel => exact ⟨k + 1, by omega, by go_num, he.trans he2, Hr⟩
        case measure => simp [intOf]; omega
    · have hks : k = n := by omega
      subst hks
      have Hr : Hid (filesFit l t = true) := Lib.hid (all_end hall.out Hn.out)
      clear hall
      go_wp2
      go_ret
      exact ⟨ret_b Hr.out.symm, he⟩
set_option maxRecDepth 4000 in
set_option maxHeartbeats 1000000 in
theorem l11Count_c {B : Nat} {vt : Value} {t : List It} (p : Int) (w : World) (ht : Its B w vt t) : Calls Tryd.prog 15 #[vt, .int .i64 p] w (Ret (.int .i64 (cntT p t : Nat)) w) := by
  obtain ⟨A2, c2, rfl, hA2⟩ := ht
  have hl2 := hA2.2.2.1
  unfold lim at hl2
  generalize hn : t.length = n at *
  have Hn := Lib.hid hn; clear hn
  have HA2 := Lib.hid hA2; clear hA2
  go_enter Tryd.func15, Tryd.ntmps15
  go_wp2
  go_loopw [5, 6] (fun c i wr => ∃ k : Nat, k ≤ n ∧ i = .int .i64 k ∧ c = .int .i64 (cntT p (t.take k) : Nat) ∧ Ext w wr ∧ cntT p (t.take k) ≤ k * 4194304) (fun _ i _ => n - (intOf i).toNat)
  case atStart => exact ⟨0, by omega, rfl, rfl, Ext.refl _, by simp [cntT]⟩
  case round =>
    obtain ⟨k, hk, rfl, rfl, he, hcb⟩ := hrel
    by_cases hlt : k < n
    · obtain ⟨x, hx⟩ := get_of_lt (l := t) (k := k) (by rw [Hn.out]; exact hlt)
      obtain ⟨b, o, u, rfl, -, -, -, hu, -, -, hc2⟩ := Its.at_ HA2.out hx
      have a2 := fun W (e : Ext wr W) => hc2 W (he.trans e)
      obtain ⟨Au, cu, rfl, hU⟩ := hu
      have hul := hU.2.2.1
      unfold lim at hul
      have Hc := Lib.hid (cntT_take (i := p) hx)
      generalize hq : x.ids.length = q at *
      have Hq := Lib.hid hq; clear hq
      have HU := Lib.hid hU
      generalize hC : cntT p (t.take k) = C at *
      have hC0 : C ≤ 4194304 * 4194304 := Nat.le_trans hcb (Nat.mul_le_mul_right _ (by omega))
      clear hc2 hU hC hx
      go_wp2
      go_loopw [5, 7] (fun c i wr' => ∃ m : Nat, m ≤ q ∧ i = .int .i64 m ∧ c = .int .i64 ((C + cntI p (x.ids.take m) : Nat) : Int) ∧ Ext wr wr' ∧ cntI p (x.ids.take m) ≤ m) (fun _ i _ => q - (intOf i).toNat)
      case atStart => exact ⟨0, by omega, rfl, by simp [cntI], Ext.refl _, by simp [cntI]⟩
      case round =>
        obtain ⟨m, hm, rfl, rfl, he2, hmb⟩ := hrel
        have q2 := a2 wr he2
        by_cases hlt2 : m < q
        · obtain ⟨y, hy⟩ := get_of_lt (l := x.ids) (k := m) (by rw [Hq.out]; exact hlt2)
          obtain ⟨b', o', rfl, -, -, -, hy0⟩ := Ints.at_ HU.out hy
          have r0 := hy0 wr (he.trans he2)
          have hct := cntI_take (i := p) hy
          by_cases hyp : y = p
          · have hb : (y == p) = true := by simpa using hyp
            rw [if_pos hyp] at hct
            have Hct := Lib.hid hct
            generalize cntI p (x.ids.take m) = D at *
            clear hy hy0 hct hyp
            go_wp2
            go_roundw
            case rel => exact ⟨m + 1, by omega, by go_num, by rw [Hct.out]; go_num, he2, by rw [Hct.out]; omega⟩
            case measure => simp [intOf]; omega
          · have hb : (y == p) = false := by simpa using hyp
            rw [if_neg hyp] at hct
            simp only [Nat.add_zero] at hct
            have Hct := Lib.hid hct
            generalize cntI p (x.ids.take m) = D at *
            clear hy hy0 hct hyp
            go_wp2
            go_roundw
            case rel => exact ⟨m + 1, by omega, by go_num, by rw [Hct.out], he2, by rw [Hct.out]; omega⟩
            case measure => simp [intOf]; omega
        · have hmq : m = q := by omega
          subst hmq
          have Hs : Hid (cntT p (t.take (k + 1)) = C + cntI p (x.ids.take m)) := Lib.hid (by rw [Hc.out, List.take_of_length_le (by rw [Hq.out]; exact Nat.le_refl _)])
          generalize cntI p (x.ids.take m) = D at *
          go_wp2
          go_roundw
          case rel => exact ⟨k + 1, by omega, by go_num, by rw [Hs.out], he.trans he2, by rw [Hs.out]; omega⟩
          case measure => simp [intOf]; omega
    · have hks : k = n := by omega
      subst hks
      have Hr : Hid (cntT p (t.take k) = cntT p t) := Lib.hid (by rw [List.take_of_length_le (by rw [Hn.out]; exact Nat.le_refl _)])
      generalize cntT p (t.take k) = C at *
      go_wp2
      go_ret
      exact ⟨by rw [← Hr.out]; rfl, he⟩
set_option maxRecDepth 4000 in
set_option maxHeartbeats 2000000 in
theorem specVolumeValid_c {B B' : Nat} {vs vt : Value} {s : List Hd} {t : List It} (w : World) (hs : Hds B w vs s) (ht : Its B' w vt t) : Calls Tryd.prog 7 #[.agg #[vs, vt]] w (Ret (.bool (volOk s t)) w) := by
  have HS := Lib.hid hs; have HT := Lib.hid ht
  obtain ⟨A, c, rfl, hA⟩ := hs
  obtain ⟨A2, c2, rfl, -⟩ := ht
  have hl := hA.2.2.1
  unfold lim at hl
  have e0 : Ext w (w.alloc (.cells #[.slice A s.length c, .slice A2 t.length c2] 26)) := (Ext.refl w).alloc _
  have hbk := Blk.new w 26 #[.slice A s.length c, .slice A2 t.length c2]
  have d0 := fun W (e : Ext _ W) => hbk.at_ (i := 0) (u := .slice A s.length c) rfl W e
  have d1 := fun W (e : Ext _ W) => hbk.at_ (i := 1) (u := .slice A2 t.length c2) rfl W e
  have C1 := fun W (e : Ext (w.alloc (.cells #[.slice A s.length c, .slice A2 t.length c2] 26)) W) => specStoreValid_c W (HS.out.ext (e0.trans e))
  have C2 := fun W (e : Ext (w.alloc (.cells #[.slice A s.length c, .slice A2 t.length c2] 26)) W) => specTreeValid_c W (HT.out.ext (e0.trans e))
  have C3 := fun W (e : Ext (w.alloc (.cells #[.slice A s.length c, .slice A2 t.length c2] 26)) W) => l11Files_c W (HS.out.ext (e0.trans e)) (HT.out.ext (e0.trans e))
  have HA := Lib.hid hA
  clear hbk hA
  cases h1 : storeOk s with
  | false =>
    rw [h1] at C1
    have Hr : Hid (volOk s t = false) := Lib.hid (by unfold volOk; rw [h1]; rfl)
    clear h1 C2 C3
    go_enter Tryd.func7, Tryd.ntmps7
    go_wp2_with (go_at_call 12; refine (C1 _ (Ext.refl _)).mono ?_; rintro e w2 ⟨rfl, he2⟩)
    go_ret
    exact ⟨ret_b Hr.out.symm, e0.trans he2⟩
  | true =>
  rw [h1] at C1
  cases h2 : treeOk t with
  | false =>
    rw [h2] at C2
    have Hr : Hid (volOk s t = false) := Lib.hid (by unfold volOk; rw [h1, h2]; rfl)
    clear h1 h2 C3
    go_enter Tryd.func7, Tryd.ntmps7
    go_wp2_with (first | (go_at_call 12; refine (C1 _ (Ext.refl _)).mono ?_; rintro e w2 ⟨rfl, he2⟩; have q1 := d1 w2 he2) | (go_at_call 13; refine (C2 _ he2).mono ?_; rintro e w3 ⟨rfl, he3⟩))
    go_ret
    exact ⟨ret_b Hr.out.symm, (e0.trans he2).trans he3⟩
  | true =>
  rw [h2] at C2
  cases h3 : filesFit s t with
  | false =>
    rw [h3] at C3
    have Hr : Hid (volOk s t = false) := Lib.hid (by unfold volOk; rw [h1, h2, h3]; rfl)
    clear h1 h2 h3
    go_enter Tryd.func7, Tryd.ntmps7
    go_wp2_with (first | (go_at_call 12; refine (C1 _ (Ext.refl _)).mono ?_; rintro e w2 ⟨rfl, he2⟩; have q1 := d1 w2 he2) | (go_at_call 13; refine (C2 _ he2).mono ?_; rintro e w3 ⟨rfl, he3⟩; have he4 := he2.trans he3; have r0 := d0 w3 he4; have r1 := d1 w3 he4) | (go_at_call 14; refine (C3 _ he4).mono ?_; rintro e w5 ⟨rfl, he5⟩))
    go_ret
    exact ⟨ret_b Hr.out.symm, (e0.trans he4).trans he5⟩
  | true =>
  rw [h3] at C3
  have Hv : Hid (volOk s t = usesFit s t) := Lib.hid (by unfold volOk; rw [h1, h2, h3]; rfl)
  clear h1 h2 h3
  generalize hn : s.length = n at *
  have Hn := Lib.hid hn; clear hn
  go_enter Tryd.func7, Tryd.ntmps7
  go_wp2_with (first | (go_at_call 12; refine (C1 _ (Ext.refl _)).mono ?_; rintro e w2 ⟨rfl, he2⟩; have q1 := d1 w2 he2) | (go_at_call 13; refine (C2 _ he2).mono ?_; rintro e w3 ⟨rfl, he3⟩; have he4 := he2.trans he3; have r0 := d0 w3 he4; have r1 := d1 w3 he4) | (go_at_call 14; refine (C3 _ he4).mono ?_; rintro e w5 ⟨rfl, he5⟩))
  have he6 := he4.trans he5
  clear C1 C2 C3 q1 r0 r1 he2 he3 he4 he5
  go_loopw [3] (fun i wr => ∃ k : Nat, k ≤ n ∧ i = .int .i64 k ∧ Ext (w.alloc (.cells #[.slice A n c, .slice A2 t.length c2] 26)) wr ∧ Hid ((s.take k).all (fun h => eqb (cntT h.id t : Int) h.uses) = true)) (fun i _ => n - (intOf i).toNat)
  case atStart => exact ⟨0, by omega, rfl, he6, Lib.hid rfl⟩
  case round =>
    obtain ⟨k, hk, rfl, he, hall⟩ := hrel
    have q0 := d0 wr he
    by_cases hlt : k < n
    · obtain ⟨x, hx⟩ := get_of_lt (l := s) (k := k) (by rw [Hn.out]; exact hlt)
      obtain ⟨b, o, u, rfl, -, -, -, -, -, hc0, -, hc2⟩ := Hds.at_ HA.out hx
      have a0 := fun W (e : Ext wr W) => hc0 W ((e0.trans he).trans e)
      have a2 := fun W (e : Ext wr W) => hc2 W ((e0.trans he).trans e)
      have D0 := fun W (e : Ext wr W) => d0 W (he.trans e)
      have D1 := fun W (e : Ext wr W) => d1 W (he.trans e)
      have Cc := fun W (e : Ext wr W) => l11Count_c x.id W (HT.out.ext ((e0.trans he).trans e))
      have Hx := Lib.hid hx
      obtain ⟨xk, xb, xu⟩ := x
      simp only at a0 a2 Cc
      generalize hC : cntT xk t = C at *
      have HC := Lib.hid hC
      clear hc0 hc2 hx hC
      by_cases hcu : (C : Int) = xu
      · have hb : ((C : Int) != xu) = false := by simp [hcu]
        have Hr := Lib.hid (all_take hall.out Hx.out (by simp only [HC.out]; exact eqb_true.2 hcu))
        clear hall
        go_wp2
        refine wp_region_ext (by kernel_rfl) (by kernel_rfl) ?_
        repeat (first | (apply q_plain rfl; (· intro W eW; go_simp; (first | done | rfl | (rw [if_pos] <;> first | omega | rfl))); (try simp only [Act.put, List.setIfInBounds_toArray, List.set_cons_zero, List.set_cons_succ])) | (refine qg_skip (by rfl) ?_; (try simp only [Act.put, List.setIfInBounds_toArray, List.set_cons_zero, List.set_cons_succ])) | (apply qg_plain (by rfl); (· intro W eW; go_simp; (first | done | rfl | (rw [if_pos] <;> first | omega | rfl))); (try simp only [Act.put, List.setIfInBounds_toArray, List.set_cons_zero, List.set_cons_succ])))
        ((first | apply q_call rfl | apply qg_call (by rfl)); (· intro W eW; go_simp; (first | done | (constructor <;> rfl))); (· intro W eW; exact Cc W eW); (try simp only [Act.put, List.setIfInBounds_toArray, List.set_cons_zero, List.set_cons_succ]))
        repeat (first | (apply q_plain rfl; (· intro W eW; go_simp; (first | done | rfl | (rw [if_pos] <;> first | omega | rfl))); (try simp only [Act.put, List.setIfInBounds_toArray, List.set_cons_zero, List.set_cons_succ])) | (refine qg_skip (by rfl) ?_; (try simp only [Act.put, List.setIfInBounds_toArray, List.set_cons_zero, List.set_cons_succ])) | (apply qg_plain (by rfl); (· intro W eW; go_simp; (first | done | rfl | (rw [if_pos] <;> first | omega | rfl))); (try simp only [Act.put, List.setIfInBounds_toArray, List.set_cons_zero, List.set_cons_succ])))
        refine q_nil ?_
        intro w7 e7
        go_wp2
        go_roundw
        case rel => exact ⟨k + 1, by omega, by go_num, he.trans e7, Hr⟩
        case measure => simp [intOf]; omega
      · have hb : ((C : Int) != xu) = true := by simp [hcu]
        have Hr : Hid (usesFit s t = false) := Lib.hid (all_bad Hx.out (by simp only [HC.out]; exact eqb_false.2 hcu))
        clear hall
        go_wp2
        refine wp_region_ext (by kernel_rfl) (by kernel_rfl) ?_
        repeat (first | (apply q_plain rfl; (· intro W eW; go_simp; (first | done | rfl | (rw [if_pos] <;> first | omega | rfl))); (try simp only [Act.put, List.setIfInBounds_toArray, List.set_cons_zero, List.set_cons_succ])) | (refine qg_skip (by rfl) ?_; (try simp only [Act.put, List.setIfInBounds_toArray, List.set_cons_zero, List.set_cons_succ])) | (apply qg_plain (by rfl); (· intro W eW; go_simp; (first | done | rfl | (rw [if_pos] <;> first | omega | rfl))); (try simp only [Act.put, List.setIfInBounds_toArray, List.set_cons_zero, List.set_cons_succ])))
        ((first | apply q_call rfl | apply qg_call (by rfl)); (· intro W eW; go_simp; (first | done | (constructor <;> rfl))); (· intro W eW; exact Cc W eW); (try simp only [Act.put, List.setIfInBounds_toArray, List.set_cons_zero, List.set_cons_succ]))
        repeat (first | (apply q_plain rfl; (· intro W eW; go_simp; (first | done | rfl | (rw [if_pos] <;> first | omega | rfl))); (try simp only [Act.put, List.setIfInBounds_toArray, List.set_cons_zero, List.set_cons_succ])) | (refine qg_skip (by rfl) ?_; (try simp only [Act.put, List.setIfInBounds_toArray, List.set_cons_zero, List.set_cons_succ])) | (apply qg_plain (by rfl); (· intro W eW; go_simp; (first | done | rfl | (rw [if_pos] <;> first | omega | rfl))); (try simp only [Act.put, List.setIfInBounds_toArray, List.set_cons_zero, List.set_cons_succ])))
        refine q_nil ?_
        intro w7 e7
        go_wp2
        go_ret
        exact ⟨ret_b (by rw [Hv.out, Hr.out]), e0.trans (he.trans e7)⟩
    · have hks : k = n := by omega
      subst hks
      have Hr : Hid (usesFit s t = true) := Lib.hid (all_end hall.out Hn.out)
      clear hall
      go_wp2
      go_ret
      exact ⟨ret_b (by rw [Hv.out, Hr.out]), e0.trans he⟩
end Go.Sf
