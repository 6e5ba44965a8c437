/- Quotas are checked: the reference and the program. -/
import Derived.Test.YtadjkgdlpaddjaaGreatDoorT103
import Derived.Test.YtadjkgdlpaddjaaGreatDoorT98
import Derived.Test.YtadjkgdlpaddjaaGreatDoorGE
import Derived.Test.YtadjkgdlpaddjaaGreatDoorGC
set_option linter.all false
namespace Go.Sf
open Go Go.RowKit Go.Proofs Go.Maps
def qtOk (x : Qt) : Bool := dirOk x.dir && inB x.most 0 999
def qtGo : Option ByteArray → List Qt → Bool
  | _, [] => true
  | p, x :: r => qtOk x && ((match p with | none => true | some d => blt d x.dir) && qtGo (some x.dir) r)
def quotasOk (l : List Qt) : Bool := decide (l.length ≤ 6) && qtGo none l
/-- the directory ahead of the k-th -/
def prevD (l : List Qt) (k : Nat) : Option ByteArray := if k = 0 then none else (l[k - 1]?).map Qt.dir
theorem prevD_succ {l : List Qt} {k : Nat} {x : Qt} (h : l[k]? = some x) : prevD l (k + 1) = some x.dir := by unfold prevD; rw [if_neg (by omega)]; simp [h]
theorem qt_drop {l : List Qt} {k : Nat} {x : Qt} (hx : l[k]? = some x) : qtGo (prevD l k) (l.drop k) = (qtOk x && ((match prevD l k with | none => true | some d => blt d x.dir) && qtGo (prevD l (k + 1)) (l.drop (k + 1)))) := by
  rw [drop_cons hx, prevD_succ hx]; rfl
theorem qt_end {l : List Qt} {k : Nat} (h : l.length = k) (p : Option ByteArray) : qtGo p (l.drop k) = true := by
  rw [List.drop_of_length_le (by omega)]; cases p <;> rfl
set_option maxRecDepth 8000 in
set_option maxHeartbeats 2000000 in
theorem specQuotasValid_c {B : Nat} {v : Value} {l : List Qt} (w : World) (h : Qts B w v l) : Calls Tryz.prog 113 #[v] w (Ret (.bool (quotasOk l)) w) := by
  obtain ⟨A, c, rfl, hA⟩ := h
  have hl := hA.2.2.1
  unfold lim at hl
  have HA := Lib.hid hA
  clear hA
  generalize hnn : l.length = n at *
  have Hn := Lib.hid hnn; clear hnn
  go_enter Tryz.func113, Tryz.ntmps113
  go_wp2
  go_loopw [3] (fun i wr => ∃ k : Nat, k ≤ n ∧ i = .int .i64 k ∧ Ext w wr ∧ Hid (qtGo (prevD l k) (l.drop k) = qtGo none l)) (fun i _ => n - (intOf i).toNat)
  case atStart => exact ⟨0, by omega, rfl, Ext.refl w, Lib.hid rfl⟩
  case round =>
    obtain ⟨k, hk, rfl, he, hq⟩ := hrel
    by_cases hlt : k < n
    · obtain ⟨x, hx⟩ := get_of_lt (l := l) (k := k) (by rw [Hn.out]; exact hlt)
      obtain ⟨b, o, rfl, -, -, hps, -, hc0, hc1⟩ := Qts.at_ HA.out hx
      have a0 := fun W (e : Ext wr W) => hc0 W (he.trans e)
      have a1 := fun W (e : Ext wr W) => hc1 W (he.trans e)
      have Cd := fun W => l1Dir_c x.dir W hps
      have Ci := fun W => l6In_c x.most 0 999 W
      have hst := qt_drop hx
      rw [hq.out] at hst
      have Hx := Lib.hid hx
      cases hd : dirOk x.dir with
      | false =>
        have Hr : Hid (quotasOk l = false) := Lib.hid (by unfold quotasOk; rw [hst, qtOk, hd]; simp)
        simp only [hd] at Cd
        clear hst hd hc0 hc1 hx hq
        go_wp2
        refine wp_region_hold (fun W => Ext wr W) 31 [(0, true), (1, true), (2, true), (3, true), (4, true), (5, false), (6, true), (7, true), (8, true), (9, true), (10, true), (11, true), (12, true), (13, false), (14, true), (15, true), (16, true), (17, true), (18, true), (19, true), (20, true), (21, true), (22, true), (23, true), (24, true), (25, true), (26, true), (27, true), (28, true), (29, true), (30, true)] (by kernel_rfl) (by kernel_rfl) ?_ ?_
        · exact (Ext.refl _).drew
        (repeat (first | (apply hw_read (by rfl) (by rfl); (· (intro W hW; (try dsimp only at hW); go_simp; (first | done | rfl | (rw [if_pos] <;> first | omega | rfl)))); (try simp only [Act.put, List.setIfInBounds_toArray, List.set_cons_zero, List.set_cons_succ])) | (refine hw_skip (by rfl) (by rfl) ?_; (try simp only [Act.put, List.setIfInBounds_toArray, List.set_cons_zero, List.set_cons_succ]))))
        refine hw_step (by rfl) ?_
        go_wp2_with (go_at_call 83; refine (Cd _).mono ?_; rintro e w4 ⟨rfl, he4⟩)
        have he5 := (Ext.refl wr).drew.trans he4
        refine ⟨he5, ?_⟩
        (repeat (first | (apply hw_read (by rfl) (by rfl); (· (intro W hW; (try dsimp only at hW); go_simp; (first | done | rfl | (rw [if_pos] <;> first | omega | rfl)))); (try simp only [Act.put, List.setIfInBounds_toArray, List.set_cons_zero, List.set_cons_succ])) | (refine hw_skip (by rfl) (by rfl) ?_; (try simp only [Act.put, List.setIfInBounds_toArray, List.set_cons_zero, List.set_cons_succ]))))
        (try (refine hw_step (by rfl) ?_; go_wp2; refine ⟨he5, ?_⟩))
        (try (repeat (first | (apply hw_read (by rfl) (by rfl); (· (intro W hW; (try dsimp only at hW); go_simp; (first | done | rfl | (rw [if_pos] <;> first | omega | rfl)))); (try simp only [Act.put, List.setIfInBounds_toArray, List.set_cons_zero, List.set_cons_succ])) | (refine hw_skip (by rfl) (by rfl) ?_; (try simp only [Act.put, List.setIfInBounds_toArray, List.set_cons_zero, List.set_cons_succ])))))
        (try (refine hw_nil ?_; (try simp only [List.drop_succ_cons, List.drop_zero])))
        go_wp2
        refine NoPanic.normal ?_
        (try dsimp only [Exit.then])
        (try go_wp2)
        go_ret
        exact ⟨ret_b Hr.out.symm, he.trans he5⟩
      | true =>
      simp only [hd] at Cd
      cases hm : inB x.most 0 999 with
      | false =>
        have Hr : Hid (quotasOk l = false) := Lib.hid (by unfold quotasOk; rw [hst, qtOk, hm]; simp)
        simp only [hm] at Ci
        clear hst hd hm hc0 hc1 hx hq
        go_wp2
        refine wp_region_hold (fun W => Ext wr W) 31 [(0, true), (1, true), (2, true), (3, true), (4, true), (5, false), (6, true), (7, true), (8, true), (9, true), (10, true), (11, true), (12, true), (13, false), (14, true), (15, true), (16, true), (17, true), (18, true), (19, true), (20, true), (21, true), (22, true), (23, true), (24, true), (25, true), (26, true), (27, true), (28, true), (29, true), (30, true)] (by kernel_rfl) (by kernel_rfl) ?_ ?_
        · exact (Ext.refl _).drew
        (repeat (first | (apply hw_read (by rfl) (by rfl); (· (intro W hW; (try dsimp only at hW); go_simp; (first | done | rfl | (rw [if_pos] <;> first | omega | rfl)))); (try simp only [Act.put, List.setIfInBounds_toArray, List.set_cons_zero, List.set_cons_succ])) | (refine hw_skip (by rfl) (by rfl) ?_; (try simp only [Act.put, List.setIfInBounds_toArray, List.set_cons_zero, List.set_cons_succ]))))
        refine hw_step (by rfl) ?_
        go_wp2_with (go_at_call 83; refine (Cd _).mono ?_; rintro e w4 ⟨rfl, he4⟩)
        have he5 := (Ext.refl wr).drew.trans he4
        refine ⟨he5, ?_⟩
        (repeat (first | (apply hw_read (by rfl) (by rfl); (· (intro W hW; (try dsimp only at hW); go_simp; (first | done | rfl | (rw [if_pos] <;> first | omega | rfl)))); (try simp only [Act.put, List.setIfInBounds_toArray, List.set_cons_zero, List.set_cons_succ])) | (refine hw_skip (by rfl) (by rfl) ?_; (try simp only [Act.put, List.setIfInBounds_toArray, List.set_cons_zero, List.set_cons_succ]))))
        refine hw_step (by rfl) ?_
        go_wp2_with (go_at_call 114; refine (Ci _).mono ?_; rintro e w6 ⟨rfl, he6⟩)
        have he7 := he5.trans he6
        refine ⟨he7, ?_⟩
        (try (repeat (first | (apply hw_read (by rfl) (by rfl); (· (intro W hW; (try dsimp only at hW); go_simp; (first | done | rfl | (rw [if_pos] <;> first | omega | rfl)))); (try simp only [Act.put, List.setIfInBounds_toArray, List.set_cons_zero, List.set_cons_succ])) | (refine hw_skip (by rfl) (by rfl) ?_; (try simp only [Act.put, List.setIfInBounds_toArray, List.set_cons_zero, List.set_cons_succ])))))
        (refine hw_nil ?_; (try simp only [List.drop_succ_cons, List.drop_zero]))
        go_wp2
        refine NoPanic.normal ?_
        (try dsimp only [Exit.then])
        (try go_wp2)
        go_ret
        exact ⟨ret_b Hr.out.symm, he.trans he7⟩
      | true =>
      simp only [hm] at Ci
      by_cases hk0 : k = 0
      · have hdk : decide (0 < k) = false := by simp; omega
        have Hr : Hid (qtGo (prevD l (k + 1)) (l.drop (k + 1)) = qtGo none l) := Lib.hid (by rw [hst, qtOk, hd, hm]; subst hk0; rfl)
        clear hk0
        clear hst hd hm hc0 hc1 hx hq
        go_wp2
        refine wp_region_hold (fun W => Ext wr W) 31 [(0, true), (1, true), (2, true), (3, true), (4, true), (5, false), (6, true), (7, true), (8, true), (9, true), (10, true), (11, true), (12, true), (13, false), (14, true), (15, true), (16, true), (17, true), (18, true), (19, true), (20, true), (21, true), (22, true), (23, true), (24, true), (25, true), (26, true), (27, true), (28, true), (29, true), (30, true)] (by kernel_rfl) (by kernel_rfl) ?_ ?_
        · exact (Ext.refl _).drew
        (repeat (first | (apply hw_read (by rfl) (by rfl); (· (intro W hW; (try dsimp only at hW); go_simp; (first | done | rfl | (rw [if_pos] <;> first | omega | rfl)))); (try simp only [Act.put, List.setIfInBounds_toArray, List.set_cons_zero, List.set_cons_succ])) | (refine hw_skip (by rfl) (by rfl) ?_; (try simp only [Act.put, List.setIfInBounds_toArray, List.set_cons_zero, List.set_cons_succ]))))
        refine hw_step (by rfl) ?_
        go_wp2_with (go_at_call 83; refine (Cd _).mono ?_; rintro e w4 ⟨rfl, he4⟩)
        have he5 := (Ext.refl wr).drew.trans he4
        refine ⟨he5, ?_⟩
        (repeat (first | (apply hw_read (by rfl) (by rfl); (· (intro W hW; (try dsimp only at hW); go_simp; (first | done | rfl | (rw [if_pos] <;> first | omega | rfl)))); (try simp only [Act.put, List.setIfInBounds_toArray, List.set_cons_zero, List.set_cons_succ])) | (refine hw_skip (by rfl) (by rfl) ?_; (try simp only [Act.put, List.setIfInBounds_toArray, List.set_cons_zero, List.set_cons_succ]))))
        refine hw_step (by rfl) ?_
        go_wp2_with (go_at_call 114; refine (Ci _).mono ?_; rintro e w6 ⟨rfl, he6⟩)
        have he7 := he5.trans he6
        refine ⟨he7, ?_⟩
        (try (repeat (first | (apply hw_read (by rfl) (by rfl); (· (intro W hW; (try dsimp only at hW); go_simp; (first | done | rfl | (rw [if_pos] <;> first | omega | rfl)))); (try simp only [Act.put, List.setIfInBounds_toArray, List.set_cons_zero, List.set_cons_succ])) | (refine hw_skip (by rfl) (by rfl) ?_; (try simp only [Act.put, List.setIfInBounds_toArray, List.set_cons_zero, List.set_cons_succ])))))
        (refine hw_nil ?_; (try simp only [List.drop_succ_cons, List.drop_zero]))
        go_wp2
        refine NoPanic.normal ?_
        (try dsimp only [Exit.then])
        (try go_wp2)
        go_roundw
        case rel => exact ⟨k + 1, by omega, by go_num, he.trans he7, Hr⟩
        case measure => simp [intOf]; omega
      · obtain ⟨m, rfl⟩ : ∃ m, k = m + 1 := ⟨k - 1, by omega⟩
        obtain ⟨y, hy⟩ := get_of_lt (l := l) (k := m) (by rw [Hn.out]; omega)
        obtain ⟨b', o', hbo, -, -, -, -, hy0, -⟩ := Qts.at_ HA.out hy
        simp only [Option.some.injEq, Addr.mk.injEq, and_true] at hbo
        obtain ⟨rfl, rfl⟩ := hbo
        have b0 := fun W (e : Ext wr W) => hy0 W (he.trans e)
        have hp : prevD l (m + 1) = some y.dir := prevD_succ hy
        have hw : IntKind.i64.wrap (m : Int) = m := by simp [IntKind.wrap, IntKind.min, IntKind.max, IntKind.signed, IntKind.bits]; omega
        cases hb : blt y.dir x.dir with
        | true =>
          have hge : Op.bytesLess y.dir.toList x.dir.toList = true := hb
          have Hr : Hid (qtGo (prevD l (m + 1 + 1)) (l.drop (m + 1 + 1)) = qtGo none l) := Lib.hid (by rw [hst, qtOk, hd, hm, hp]; simp only [hb]; simp)
          clear hst hd hm hc0 hc1 hx hq hy hp hb hy0
          go_wp2
          refine wp_region_hold (fun W => Ext wr W) 31 [(0, true), (1, true), (2, true), (3, true), (4, true), (5, false), (6, true), (7, true), (8, true), (9, true), (10, true), (11, true), (12, true), (13, false), (14, true), (15, true), (16, true), (17, true), (18, true), (19, true), (20, true), (21, true), (22, true), (23, true), (24, true), (25, true), (26, true), (27, true), (28, true), (29, true), (30, true)] (by kernel_rfl) (by kernel_rfl) ?_ ?_
          · exact (Ext.refl _).drew
          (repeat (first | (apply hw_read (by rfl) (by rfl); (· (intro W hW; (try dsimp only at hW); go_simp; (first | done | rfl | (rw [if_pos] <;> first | omega | rfl)))); (try simp only [Act.put, List.setIfInBounds_toArray, List.set_cons_zero, List.set_cons_succ])) | (refine hw_skip (by rfl) (by rfl) ?_; (try simp only [Act.put, List.setIfInBounds_toArray, List.set_cons_zero, List.set_cons_succ]))))
          refine hw_step (by rfl) ?_
          go_wp2_with (go_at_call 83; refine (Cd _).mono ?_; rintro e w4 ⟨rfl, he4⟩)
          have he5 := (Ext.refl wr).drew.trans he4
          refine ⟨he5, ?_⟩
          (repeat (first | (apply hw_read (by rfl) (by rfl); (· (intro W hW; (try dsimp only at hW); go_simp; (first | done | rfl | (rw [if_pos] <;> first | omega | rfl)))); (try simp only [Act.put, List.setIfInBounds_toArray, List.set_cons_zero, List.set_cons_succ])) | (refine hw_skip (by rfl) (by rfl) ?_; (try simp only [Act.put, List.setIfInBounds_toArray, List.set_cons_zero, List.set_cons_succ]))))
          refine hw_step (by rfl) ?_
          go_wp2_with (go_at_call 114; refine (Ci _).mono ?_; rintro e w6 ⟨rfl, he6⟩)
          have he7 := he5.trans he6
          refine ⟨he7, ?_⟩
          (try (repeat (first | (apply hw_read (by rfl) (by rfl); (· (intro W hW; (try dsimp only at hW); go_simp; (first | done | rfl | (rw [if_pos] <;> first | omega | rfl)))); (try simp only [Act.put, List.setIfInBounds_toArray, List.set_cons_zero, List.set_cons_succ])) | (refine hw_skip (by rfl) (by rfl) ?_; (try simp only [Act.put, List.setIfInBounds_toArray, List.set_cons_zero, List.set_cons_succ])))))
          (refine hw_nil ?_; (try simp only [List.drop_succ_cons, List.drop_zero]))
          go_wp2
          refine NoPanic.normal ?_
          (try dsimp only [Exit.then])
          (try go_wp2)
          go_roundw
          case rel => exact ⟨m + 1 + 1, by omega, by go_num, he.trans he7, Hr⟩
          case measure => simp [intOf]; omega
        | false =>
          have hge : Op.bytesLess y.dir.toList x.dir.toList = false := hb
          have Hr : Hid (quotasOk l = false) := Lib.hid (by unfold quotasOk; rw [hst, qtOk, hd, hm, hp]; simp only [hb]; simp)
          clear hst hd hm hc0 hc1 hx hq hy hp hb hy0
          go_wp2
          refine wp_region_hold (fun W => Ext wr W) 31 [(0, true), (1, true), (2, true), (3, true), (4, true), (5, false), (6, true), (7, true), (8, true), (9, true), (10, true), (11, true), (12, true), (13, false), (14, true), (15, true), (16, true), (17, true), (18, true), (19, true), (20, true), (21, true), (22, true), (23, true), (24, true), (25, true), (26, true), (27, true), (28, true), (29, true), (30, true)] (by kernel_rfl) (by kernel_rfl) ?_ ?_
          · exact (Ext.refl _).drew
          (repeat (first | (apply hw_read (by rfl) (by rfl); (· (intro W hW; (try dsimp only at hW); go_simp; (first | done | rfl | (rw [if_pos] <;> first | omega | rfl)))); (try simp only [Act.put, List.setIfInBounds_toArray, List.set_cons_zero, List.set_cons_succ])) | (refine hw_skip (by rfl) (by rfl) ?_; (try simp only [Act.put, List.setIfInBounds_toArray, List.set_cons_zero, List.set_cons_succ]))))
          refine hw_step (by rfl) ?_
          go_wp2_with (go_at_call 83; refine (Cd _).mono ?_; rintro e w4 ⟨rfl, he4⟩)
          have he5 := (Ext.refl wr).drew.trans he4
          refine ⟨he5, ?_⟩
          (repeat (first | (apply hw_read (by rfl) (by rfl); (· (intro W hW; (try dsimp only at hW); go_simp; (first | done | rfl | (rw [if_pos] <;> first | omega | rfl)))); (try simp only [Act.put, List.setIfInBounds_toArray, List.set_cons_zero, List.set_cons_succ])) | (refine hw_skip (by rfl) (by rfl) ?_; (try simp only [Act.put, List.setIfInBounds_toArray, List.set_cons_zero, List.set_cons_succ]))))
          refine hw_step (by rfl) ?_
          go_wp2_with (go_at_call 114; refine (Ci _).mono ?_; rintro e w6 ⟨rfl, he6⟩)
          have he7 := he5.trans he6
          refine ⟨he7, ?_⟩
          (try (repeat (first | (apply hw_read (by rfl) (by rfl); (· (intro W hW; (try dsimp only at hW); go_simp; (first | done | rfl | (rw [if_pos] <;> first | omega | rfl)))); (try simp only [Act.put, List.setIfInBounds_toArray, List.set_cons_zero, List.set_cons_succ])) | (refine hw_skip (by rfl) (by rfl) ?_; (try simp only [Act.put, List.setIfInBounds_toArray, List.set_cons_zero, List.set_cons_succ])))))
          (refine hw_nil ?_; (try simp only [List.drop_succ_cons, List.drop_zero]))
          go_wp2
          refine NoPanic.normal ?_
          (try dsimp only [Exit.then])
          (try go_wp2)
          go_ret
          exact ⟨ret_b Hr.out.symm, he.trans he7⟩
    · have hks : k = n := by omega
      subst hks
      have Hr : Hid (quotasOk l = decide (k ≤ 6)) := Lib.hid (by unfold quotasOk; rw [← hq.out, qt_end Hn.out, Hn.out, Bool.and_true])
      clear hq
      by_cases h6 : k ≤ 6
      · have h6' : (k : Int) ≤ 6 := by omega
        have hr : quotasOk l = true := by rw [Hr.out]; simp [h6]
        have Hr2 := Lib.hid hr
        clear hr Hr
        go_wp2
        go_ret
        exact ⟨ret_b Hr2.out.symm, he⟩
      · have h6' : ¬ (k : Int) ≤ 6 := by omega
        have hr : quotasOk l = false := by rw [Hr.out]; simp [h6]
        have Hr2 := Lib.hid hr
        clear hr Hr
        go_wp2
        go_ret
        exact ⟨ret_b Hr2.out.symm, he⟩
set_option maxRecDepth 8000 in
set_option maxHeartbeats 2000000 in
theorem QuotasValid_c {B : Nat} {v : Value} {l : List Qt} (w : World) (h : Qts B w v l) (hml : ML w) : Calls Tryz.prog 117 #[v] w (Ret (.bool (quotasOk l)) w) := by
  obtain ⟨A, c, rfl, hA⟩ := h
  have hl := hA.2.2.1
  unfold lim at hl
  have HA := Lib.hid hA; have HM := Lib.hid hml
  clear hA hml
  generalize hnn : l.length = n at *
  have Hn := Lib.hid hnn; clear hnn
  by_cases h6 : 6 < n
  · have h6' : (6 : Int) < (n : Int) := by omega
    have Hr : Hid (quotasOk l = false) := Lib.hid (by unfold quotasOk; rw [Hn.out]; simp; omega)
    go_enter Tryz.func117, Tryz.ntmps117
    go_wp2
    go_ret
    exact ⟨ret_b Hr.out.symm, Ext.refl w⟩
  have h6' : ¬ (6 : Int) < (n : Int) := by omega
  have Hq : Hid (quotasOk l = qtGo none l) := Lib.hid (by unfold quotasOk; rw [Hn.out, decide_eq_true (by omega : n ≤ 6)]; rfl)
  go_enter Tryz.func117, Tryz.ntmps117
  go_wp2
  go_loopw [10] (fun i wr => ∃ k : Nat, k ≤ n ∧ i = .int .i64 k ∧ Ext w wr ∧ Hid (qtGo (prevD l k) (l.drop k) = qtGo none l)) (fun i _ => n - (intOf i).toNat)
  case atStart => exact ⟨0, by omega, rfl, Ext.refl w, Lib.hid rfl⟩
  case round =>
    obtain ⟨k, hk, rfl, he, hq⟩ := hrel
    by_cases hlt : k < n
    · obtain ⟨x, hx⟩ := get_of_lt (l := l) (k := k) (by rw [Hn.out]; exact hlt)
      obtain ⟨b, o, rfl, -, -, hps, -, hc0, hc1⟩ := Qts.at_ HA.out hx
      have ea : Ext wr (wr.alloc (.cells #[.string x.dir, .int .i64 x.most] 164)) := (Ext.refl wr).alloc _
      have hbs := Blk.new wr 164 #[.string x.dir, .int .i64 x.most]
      have s0 := fun W (e : Ext _ W) => hbs.at_ (i := 0) (u := .string x.dir) rfl W e
      have s1 := fun W (e : Ext _ W) => hbs.at_ (i := 1) (u := .int .i64 x.most) rfl W e
      have a0 := hc0 wr he; have a1 := hc1 wr he
      have Cd := dirValid_c x.dir _ hps (HM.out.ext (he.trans ea))
      have hst := qt_drop hx
      rw [hq.out] at hst
      have Hx := Lib.hid hx
      clear hbs hc0 hc1
      cases hd : dirOk x.dir with
      | false =>
        have Hr : Hid (quotasOk l = false) := Lib.hid (by rw [Hq.out, hst, qtOk, hd]; rfl)
        simp only [hd] at Cd
        clear hst hd hx hq
        go_wp2_with (go_at_call 85; refine Cd.mono ?_; rintro e w4 ⟨rfl, he4⟩; have r0 := s0 w4 he4; have r1 := s1 w4 he4)
        go_ret
        exact ⟨ret_b Hr.out.symm, he.trans (ea.trans he4)⟩
      | true =>
      simp only [hd] at Cd
      by_cases hm0 : x.most < 0
      · have Hr : Hid (quotasOk l = false) := Lib.hid (by rw [Hq.out, hst, qtOk, hd, show inB x.most 0 999 = false from by unfold inB; simp; omega]; rfl)
        clear hst hd hx hq
        go_wp2_with (go_at_call 85; refine Cd.mono ?_; rintro e w4 ⟨rfl, he4⟩; have r0 := s0 w4 he4; have r1 := s1 w4 he4)
        go_ret
        exact ⟨ret_b Hr.out.symm, he.trans (ea.trans he4)⟩
      by_cases hm9 : 999 < x.most
      · have Hr : Hid (quotasOk l = false) := Lib.hid (by rw [Hq.out, hst, qtOk, hd, show inB x.most 0 999 = false from by unfold inB; simp; omega]; rfl)
        clear hst hd hx hq
        go_wp2_with (go_at_call 85; refine Cd.mono ?_; rintro e w4 ⟨rfl, he4⟩; have r0 := s0 w4 he4; have r1 := s1 w4 he4)
        go_ret
        exact ⟨ret_b Hr.out.symm, he.trans (ea.trans he4)⟩
      have hm : inB x.most 0 999 = true := by unfold inB; simp; omega
      by_cases hk0 : k = 0
      · have hdk : decide (0 < k) = false := by simp; omega
        have Hr : Hid (qtGo (prevD l (k + 1)) (l.drop (k + 1)) = qtGo none l) := Lib.hid (by rw [hst, qtOk, hd, hm]; subst hk0; rfl)
        clear hk0 hst hd hm hx hq
        go_wp2_with (go_at_call 85; refine Cd.mono ?_; rintro e w4 ⟨rfl, he4⟩; have r0 := s0 w4 he4; have r1 := s1 w4 he4)
        refine wp_region_hold (fun W => Ext (wr.alloc (.cells #[.string x.dir, .int .i64 x.most] 164)) W) 11 [(0, true), (1, true), (2, true), (3, true), (4, true), (5, true), (6, true), (7, true), (8, true), (9, true), (10, true)] (by kernel_rfl) (by kernel_rfl) ?_ ?_
        · exact he4.drew
        (repeat (first | (apply hw_read (by rfl) (by rfl); (· (intro W hW; (try dsimp only at hW); go_simp; (first | done | rfl | (rw [if_pos] <;> first | omega | rfl)))); (try simp only [Act.put, List.setIfInBounds_toArray, List.set_cons_zero, List.set_cons_succ])) | (refine hw_skip (by rfl) (by rfl) ?_; (try simp only [Act.put, List.setIfInBounds_toArray, List.set_cons_zero, List.set_cons_succ]))))
        (refine hw_nil ?_; (try simp only [List.drop_succ_cons, List.drop_zero]))
        go_wp2
        refine NoPanic.normal ?_
        (try dsimp only [Exit.then])
        (try go_wp2)
        go_roundw
        case rel => exact ⟨k + 1, by omega, by go_num, he.trans ((ea.trans he4).drew), Hr⟩
        case measure => simp [intOf]; omega
      · obtain ⟨m, rfl⟩ : ∃ m, k = m + 1 := ⟨k - 1, by omega⟩
        obtain ⟨y, hy⟩ := get_of_lt (l := l) (k := m) (by rw [Hn.out]; omega)
        obtain ⟨b', o', hbo, -, -, -, -, hy0, -⟩ := Qts.at_ HA.out hy
        simp only [Option.some.injEq, Addr.mk.injEq, and_true] at hbo
        obtain ⟨rfl, rfl⟩ := hbo
        have b0 := fun W (e : Ext (wr.alloc (.cells #[.string x.dir, .int .i64 x.most] 164)) W) => hy0 W (he.trans (ea.trans e))
        have hp : prevD l (m + 1) = some y.dir := prevD_succ hy
        have hw : IntKind.i64.wrap (m : Int) = m := by simp [IntKind.wrap, IntKind.min, IntKind.max, IntKind.signed, IntKind.bits]; omega
        cases hb : blt y.dir x.dir with
        | true =>
          have hge : Op.bytesLess y.dir.toList x.dir.toList = true := hb
          have Hr : Hid (qtGo (prevD l (m + 1 + 1)) (l.drop (m + 1 + 1)) = qtGo none l) := Lib.hid (by rw [hst, qtOk, hd, hm, hp]; simp only [hb]; simp)
          clear hst hd hm hx hq hy hp hb hy0
          go_wp2_with (go_at_call 85; refine Cd.mono ?_; rintro e w4 ⟨rfl, he4⟩; have r0 := s0 w4 he4; have r1 := s1 w4 he4)
          refine wp_region_hold (fun W => Ext (wr.alloc (.cells #[.string x.dir, .int .i64 x.most] 164)) W) 11 [(0, true), (1, true), (2, true), (3, true), (4, true), (5, true), (6, true), (7, true), (8, true), (9, true), (10, true)] (by kernel_rfl) (by kernel_rfl) ?_ ?_
          · exact he4.drew
          (repeat (first | (apply hw_read (by rfl) (by rfl); (· (intro W hW; (try dsimp only at hW); go_simp; (first | done | rfl | (rw [if_pos] <;> first | omega | rfl)))); (try simp only [Act.put, List.setIfInBounds_toArray, List.set_cons_zero, List.set_cons_succ])) | (refine hw_skip (by rfl) (by rfl) ?_; (try simp only [Act.put, List.setIfInBounds_toArray, List.set_cons_zero, List.set_cons_succ]))))
          (refine hw_nil ?_; (try simp only [List.drop_succ_cons, List.drop_zero]))
          go_wp2
          refine NoPanic.normal ?_
          (try dsimp only [Exit.then])
          (try go_wp2)
          go_roundw
          case rel => exact ⟨m + 1 + 1, by omega, by go_num, he.trans ((ea.trans he4).drew), Hr⟩
          case measure => simp [intOf]; omega
        | false =>
          have hge : Op.bytesLess y.dir.toList x.dir.toList = false := hb
          have Hr : Hid (quotasOk l = false) := Lib.hid (by rw [Hq.out, hst, qtOk, hd, hm, hp]; simp only [hb]; simp)
          clear hst hd hm hx hq hy hp hb hy0
          go_wp2_with (go_at_call 85; refine Cd.mono ?_; rintro e w4 ⟨rfl, he4⟩; have r0 := s0 w4 he4; have r1 := s1 w4 he4)
          refine wp_region_hold (fun W => Ext (wr.alloc (.cells #[.string x.dir, .int .i64 x.most] 164)) W) 11 [(0, true), (1, true), (2, true), (3, true), (4, true), (5, true), (6, true), (7, true), (8, true), (9, true), (10, true)] (by kernel_rfl) (by kernel_rfl) ?_ ?_
          · exact he4.drew
          (repeat (first | (apply hw_read (by rfl) (by rfl); (· (intro W hW; (try dsimp only at hW); go_simp; (first | done | rfl | (rw [if_pos] <;> first | omega | rfl)))); (try simp only [Act.put, List.setIfInBounds_toArray, List.set_cons_zero, List.set_cons_succ])) | (refine hw_skip (by rfl) (by rfl) ?_; (try simp only [Act.put, List.setIfInBounds_toArray, List.set_cons_zero, List.set_cons_succ]))))
          (refine hw_nil ?_; (try simp only [List.drop_succ_cons, List.drop_zero]))
          go_wp2
          refine NoPanic.normal ?_
          (try dsimp only [Exit.then])
          (try go_wp2)
          go_ret
          exact ⟨ret_b Hr.out.symm, he.trans ((ea.trans he4).drew)⟩
    · have hks : k = n := by omega
      subst hks
      have Hr : Hid (quotasOk l = true) := Lib.hid (by rw [Hq.out, ← hq.out, qt_end Hn.out])
      clear hq
      go_wp2
      go_ret
      exact ⟨ret_b Hr.out.symm, he⟩
end Go.Sf
