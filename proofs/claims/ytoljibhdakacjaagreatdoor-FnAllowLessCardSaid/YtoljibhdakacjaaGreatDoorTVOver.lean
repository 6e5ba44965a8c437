/- Laws of drawn quotas: who has too much, fewer bytes. -/
import Derived.Test.YtoljibhdakacjaaGreatDoorT176
import Derived.Test.YtoljibhdakacjaaGreatDoorT107
import Derived.Test.YtoljibhdakacjaaGreatDoorHL
namespace Go.Sf
open Go Go.RowKit Go.Proofs
theorem over_at {s : List Hd} {t : List It} {q : List Qt} {k : Nat} {x : Qt} (h : q[k]? = some x) (ho : qtOver s t x = true) : (overL s t q)[(overL s t (q.take k)).length]? = some x.dir := by
  have hs : q = q.take k ++ x :: q.drop (k + 1) := by
    have h1 := List.take_append_drop k q
    rw [drop_cons h] at h1
    exact h1.symm
  have e : overL s t q = overL s t (q.take k) ++ (x.dir :: overL s t (q.drop (k + 1))) := by
    conv => lhs; rw [hs]
    unfold overL
    rw [List.filter_append, List.map_append, List.filter_cons_of_pos ho, List.map_cons]
  rw [e, List.getElem?_append_right (Nat.le_refl _), Nat.sub_self]
  rfl
set_option maxHeartbeats 1000000 in
theorem FnOver_big {A : Option Addr} {n c : Nat} (w : World) (hn : 1048576 < n) (hm : n ≤ maxLen) : Calls Tryz.prog 4 #[.slice A n c] w (Ret (.bool true) w) := by
  unfold maxLen at hm
  have h : (1048576 : Int) < (n : Int) := by omega
  go_enter Tryz.func4, Tryz.ntmps4
  go_wp2
  go_ret
  exact ⟨rfl, Ext.refl w⟩
set_option maxRecDepth 8000 in
set_option maxHeartbeats 4000000 in
theorem FnOver_c {v : Value} {xs : List Int} (w : World) (h : Bys w v xs) (hm : ML w) (hl : xs.length ≤ 1048576) {a : Addr} (hE : EB a w) : Calls Tryz.prog 4 #[v] w (Ret (.bool true) w) := by
  have H := Lib.hid h
  obtain ⟨A0, c0, rfl, -⟩ := h
  have HM := Lib.hid hm; clear hm
  have HE := Lib.hid hE; clear hE
  have hn : ¬ (1048576 : Int) < (xs.length : Int) := by omega
  go_enter Tryz.func4, Tryz.ntmps4
  go_wp2_with fail
  refine (DrawQuotasOver_c _ H.out).mono ?_
  rintro e w1 ⟨us, ut, un, vq, ql, rfl, ⟨s, t, l, hS, hT, hN, ht12, hl7, hlt12⟩, hQ, hq5, he1⟩
  obtain ⟨A1, c1, rfl, hSs⟩ := id hS
  obtain ⟨A2, c2, rfl, hTs⟩ := id hT
  obtain ⟨A3, c3, rfl, hNs⟩ := id hN
  obtain ⟨A4, c4, rfl, hQs⟩ := id hQ
  have HM1 := Lib.hid (HM.out.ext he1); have HE1 := Lib.hid (HE.out.ext he1)
  obtain ⟨m, hm⟩ : ∃ n, s.length = n := ⟨_, rfl⟩
  obtain ⟨n, hn⟩ : ∃ n, t.length = n := ⟨_, rfl⟩
  obtain ⟨q, hq⟩ : ∃ n, l.length = n := ⟨_, rfl⟩
  obtain ⟨r, hr⟩ : ∃ n, ql.length = n := ⟨_, rfl⟩
  have Hm := Lib.hid hm; have Hn := Lib.hid hn; have Hq := Lib.hid hq; have Hr := Lib.hid hr
  have hS2 : Hds w.heap.size w1 (.slice A1 m c1) s := by rw [← hm]; exact hS
  have hT2 : Its w.heap.size w1 (.slice A2 n c2) t := by rw [← hn]; exact hT
  have hN2 : Sns w.heap.size w1 (.slice A3 q c3) l := by rw [← hq]; exact hN
  have hQ2 : Qts w.heap.size w1 (.slice A4 r c4) ql := by rw [← hr]; exact hQ
  rw [hr] at hq5
  have HS := Lib.hid hS2; have HT := Lib.hid hT2; have HN := Lib.hid hN2; have HQ := Lib.hid hQ2; have HQs := Lib.hid hQs
  clear hS hT hN hT2 hS2 hN2 hTs hSs hNs hlt12 hQ hQ2 hQs
  rw [hm, hn, hq, hr]
  clear hm hn hq hr
  go_wp2_with fail
  have hbx := Blk.new w1 27 #[.slice A1 m c1, .slice A2 n c2, .slice A3 q c3]
  have e1b : Ext w1 (w1.alloc (.cells #[.slice A1 m c1, .slice A2 n c2, .slice A3 q c3] 27)) := (Ext.refl _).alloc _
  obtain ⟨g1, hg1⟩ : ∃ g, w1.heap.size = g := ⟨_, rfl⟩
  rw [hg1] at hbx
  generalize hb1 : w1.alloc (.cells #[.slice A1 m c1, .slice A2 n c2, .slice A3 q c3] 27) = b1 at *
  have X1_0 := Lib.hid fun W (e : Ext b1 W) => hbx.at_ (i := 0) (u := .slice A1 m c1) rfl W e
  have X1_1 := Lib.hid fun W (e : Ext b1 W) => hbx.at_ (i := 1) (u := .slice A2 n c2) rfl W e
  have X1_2 := Lib.hid fun W (e : Ext b1 W) => hbx.at_ (i := 2) (u := .slice A3 q c3) rfl W e
  clear hbx hb1
  have E1 := he1.trans e1b
  have CS : Hid (∀ W, Ext w1 W → Calls Tryz.prog 17 #[.agg #[.slice A1 m c1, .slice A2 n c2, .slice A3 q c3], .slice A4 r c4] W (RetP (fun v w' => Strs W.heap.size w' v (overOf s t l ql)) W)) := Lib.hid fun W e => specQuotasOver_c W (HS.out.ext e) (HT.out.ext e) (HN.out.ext e) (HQ.out.ext e)
  have CV : Hid (∀ W, Ext w1 W → Calls Tryz.prog 19 #[.agg #[.slice A1 m c1, .slice A2 n c2, .slice A3 q c3]] W (Ret (.bool (diskOk s t l)) W)) := Lib.hid fun W e => specDiskValid_c W (HS.out.ext e) (HT.out.ext e) (HN.out.ext e)
  have CG : Hid (∀ W, Ext w1 W → Calls Tryz.prog 20 #[.slice A4 r c4] W (Ret (.bool (quotasOk ql)) W)) := Lib.hid fun W e => specQuotasValid_c W (HQ.out.ext e)
  have CU : Hid (∀ W d, Ext w1 W → d.size < lim → Calls Tryz.prog 21 #[.agg #[.slice A1 m c1, .slice A2 n c2, .slice A3 q c3], .string d] W (Ret (.int .i64 (quotaU s t l d)) W)) := Lib.hid fun W d e hd => QuotaUsed_c d W (HS.out.ext e) (HT.out.ext e) (HN.out.ext e) hd (HM1.out.ext e)
  refine (QuotasOver_c b1 (HS.out.ext e1b) (HT.out.ext e1b) (HN.out.ext e1b) (HQ.out.ext e1b) (HM1.out.ext e1b) (HE1.out.ext e1b)).mono ?_
  rintro e w2 ⟨u2, rfl, hO2, he2⟩
  obtain ⟨L, hL⟩ : ∃ L, overOf s t l ql = L := ⟨_, rfl⟩
  have HL := Lib.hid hL
  rw [hL] at hO2 CS
  clear hL
  obtain ⟨A5, c5, rfl, hOs⟩ := id hO2
  obtain ⟨z, hz⟩ : ∃ n, L.length = n := ⟨_, rfl⟩
  rw [hz] at hO2 ⊢
  have Hz := Lib.hid hz
  have HO2 := Lib.hid hO2; have HOs := Lib.hid hOs
  clear hO2 hOs hz
  have E2 := E1.trans he2
  have e12 := e1b.trans he2
  have q0 := X1_0.out w2 he2; have q1 := X1_1.out w2 he2; have q2 := X1_2.out w2 he2
  go_wp2_with fail
  refine (CS.out w2 e12).mono ?_
  rintro e w3 ⟨u3, rfl, hO3, he3⟩
  obtain ⟨A6, c6, rfl, -⟩ := id hO3
  have E3 := E2.trans he3
  have e13 := e12.trans he3
  have CT : Hid (∀ W, Ext w3 W → Calls Tryz.prog 18 #[.slice A5 z c5, .slice A6 L.length c6] W (Ret (.bool true) W)) := Lib.hid fun W e => by
    have := laws_sameTexts_c W (HO2.out.ext (he3.trans e)) (hO3.ext e)
    rwa [show eqb L L = true from eqb_true.2 rfl] at this
  have XO0 := Lib.hid fun W (e : Ext w3 W) => X1_0.out W ((he2.trans he3).trans e); have XO1 := Lib.hid fun W (e : Ext w3 W) => X1_1.out W ((he2.trans he3).trans e); have XO2 := Lib.hid fun W (e : Ext w3 W) => X1_2.out W ((he2.trans he3).trans e)
  have HO3 := Lib.hid (HOs.out)
  clear q0 q1 q2 X1_0 X1_1 X1_2 CS hO3
  go_wp2_with fail
  refine (CT.out w3 (Ext.refl _)).mono ?_
  rintro e w4 ⟨rfl, he4⟩
  have y0 := XO0.out w4 he4; have y1 := XO1.out w4 he4; have y2 := XO2.out w4 he4
  go_wp2_with fail
  refine (CV.out w4 (e13.trans he4)).mono ?_
  rintro e w5 ⟨rfl, he5⟩
  obtain ⟨b5, hb5⟩ : ∃ b, diskOk s t l = b := ⟨_, rfl⟩
  rw [hb5]
  have Hb5 := Lib.hid hb5
  clear hb5
  have E5 := (E3.trans he4).trans he5
  have e35 := he4.trans he5
  cases b5 with
  | false =>
    clear y0 y1 y2
    go_wp2_with fail
    refine (CT.out w5 e35).mono ?_
    rintro e w6 ⟨rfl, he6⟩
    go_wp2
    go_ret
    exact ⟨rfl, E5.trans he6⟩
  | true =>
    clear y0 y1 y2
    go_wp2_with fail
    refine (CG.out w5 (e13.trans e35)).mono ?_
    rintro e w6 ⟨rfl, he6⟩
    obtain ⟨b6, hb6⟩ : ∃ b, quotasOk ql = b := ⟨_, rfl⟩
    rw [hb6]
    have Hb6 := Lib.hid hb6
    clear hb6
    have E6 := E5.trans he6
    have e36 := e35.trans he6
    cases b6 with
    | false =>
      go_wp2_with fail
      refine (CT.out w6 e36).mono ?_
      rintro e w7 ⟨rfl, he7⟩
      go_wp2
      go_ret
      exact ⟨rfl, E6.trans he7⟩
    | true =>
      have HLe : Hid (L = overL s t ql) := Lib.hid (by rw [← HL.out]; unfold overOf; rw [Hb5.out, Hb6.out]; rfl)
      have e16 := e13.trans e36
      obtain ⟨ov, hov⟩ : ∃ ov : Nat → Nat, ∀ k, ov k = (overL s t (ql.take k)).length := ⟨_, fun _ => rfl⟩
      have Hov := Lib.hid hov
      have ho0 : ov 0 = 0 := by rw [hov]; rfl
      clear hov
      go_wp2
      go_loopw [7, 8] (fun v i wr => ∃ k : Nat, k ≤ r ∧ v = .int .i64 (ov k : Nat) ∧ i = .int .i64 k ∧ Ext w6 wr) (fun _ i _ => r - (RowKit.intOf i).toNat)
      case atStart => exact ⟨0, by omega, by rw [ho0]; rfl, rfl, Ext.refl _⟩
      case round =>
        obtain ⟨k, hk, rfl, rfl, he⟩ := hrel
        have e3r := e36.trans he
        have e1r := e13.trans e3r
        by_cases hlt : k < r
        · obtain ⟨y, hy⟩ := get_of_lt (l := ql) (k := k) (by rw [Hr.out]; exact hlt)
          obtain ⟨b7, o7, rfl, -, -, hds, hin, hc0, hc1⟩ := Qts.at_ HQs.out hy
          have hym := List.mem_of_getElem? hy
          have A0 := Lib.hid fun W (e : Ext wr W) => hc0 W (e1r.trans e); have B0 := Lib.hid fun W (e : Ext wr W) => hc1 W (e1r.trans e)
          have Y0 := Lib.hid fun W (e : Ext wr W) => XO0.out W (e3r.trans e); have Y1 := Lib.hid fun W (e : Ext wr W) => XO1.out W (e3r.trans e); have Y2 := Lib.hid fun W (e : Ext wr W) => XO2.out W (e3r.trans e)
          have Cq := Lib.hid fun W (e : Ext wr W) => CU.out W y.dir (e1r.trans e) hds
          have hqu : quotaU s t l y.dir = (usedT s t y.dir : Nat) := quota_of Hb5.out (quotas_dir Hb6.out hym)
          have hqo : qtOver s t y = decide (y.most < (usedT s t y.dir : Nat)) := by
            unfold qtOver; rw [used_none (disk_parts Hb5.out).2.1]
          have hat : qtOver s t y = true → L[ov k]? = some y.dir := fun h => by rw [HLe.out, Hov.out]; exact over_at hy h
          have hst : ov (k + 1) = ov k + if qtOver s t y = true then 1 else 0 := by
            rw [Hov.out, Hov.out, over_take hy, List.length_append]
            congr 1
            split <;> rfl
          have hovk : ov k ≤ k := by
            rw [Hov.out]
            have := over_len (s := s) (t := t) (ql.take k)
            rw [List.length_take] at this
            omega
          simp only [hqu] at Cq
          have Hat := Lib.hid hat; have Hst := Lib.hid hst; have Hqo := Lib.hid hqo
          generalize usedT s t y.dir = uy at *
          generalize ov k = vk at *
          have a0 := fun W (e : Ext wr W) => A0.out W e; have b0 := fun W (e : Ext wr W) => B0.out W e
          have y0 := fun W (e : Ext wr W) => Y0.out W e; have y1 := fun W (e : Ext wr W) => Y1.out W e; have y2 := fun W (e : Ext wr W) => Y2.out W e
          clear hc0 hc1 hy hym hqu hqo hat hst
          go_wp2
          refine wp_region_hold (fun W => Ext wr W) 12 [(0, true), (1, true), (2, true), (3, true), (4, true), (5, true), (7, true), (8, true), (9, true), (10, true), (11, true), (6, false)] (by kernel_rfl) (by kernel_rfl) ?_ ?_
          · show Ext _ _; (repeat' (first | exact Ext.refl _ | assumption | refine Ext.alloc ?_ _ | refine Ext.drew ?_ | refine Ext.drewN ?_ _ | refine Ext.trans ?_ (by assumption)))
          (repeat (first | (apply hw_read (by rfl) (by rfl); (· (intro W hW; (try dsimp only at hW); go_simp; (first | done | rfl | (rw [if_pos] <;> first | omega | rfl)))); (try simp only [Act.put, List.setIfInBounds_toArray, List.set_cons_zero, List.set_cons_succ])) | (refine hw_skip (by rfl) (by rfl) ?_; (try simp only [Act.put, List.setIfInBounds_toArray, List.set_cons_zero, List.set_cons_succ]))))
          refine hw_step (by rfl) ?_
          go_wp2_with (go_at_call 21; refine (Cq.out _ (Ext.refl _).drew).mono ?_; rintro e w7 ⟨rfl, he70⟩)
          have he7 := (Ext.refl wr).drew.trans he70
          refine ⟨he7, ?_⟩
          (try (repeat (first | (apply hw_read (by rfl) (by rfl); (· (intro W hW; (try dsimp only at hW); go_simp; (first | done | rfl | (rw [if_pos] <;> first | omega | rfl)))); (try simp only [Act.put, List.setIfInBounds_toArray, List.set_cons_zero, List.set_cons_succ])) | (refine hw_skip (by rfl) (by rfl) ?_; (try simp only [Act.put, List.setIfInBounds_toArray, List.set_cons_zero, List.set_cons_succ])))))
          (refine hw_nil ?_; (try simp only [List.drop_succ_cons, List.drop_zero]))
          clear a0 b0 y0 y1 y2
          go_wp2
          refine NoPanic.normal ?_
          (try dsimp only [Exit.then])
          by_cases hov : y.most < (uy : Int)
          · have hqt : qtOver s t y = true := by rw [Hqo.out]; exact decide_eq_true hov
            have hLk := Hat.out hqt
            have hlz : vk < z := by rw [← Hz.out]; exact lt_of_get hLk
            obtain ⟨b8, o8, rfl, -, -, -, g0⟩ := Strs.at_ HOs.out hLk
            have HG0 := Lib.hid fun W (e : Ext w7 W) => g0 W ((((he3.trans e36).trans he).trans he7).trans e)
            have hvk1 : ov (k + 1) = vk + 1 := by rw [Hst.out, hqt]; rfl
            have Hvk1 := Lib.hid hvk1
            have hw9 : IntKind.i64.wrap ((vk : Int) + 1) = (vk : Int) + 1 := IntWalk.i64_in _ (by omega)
            have hge : ¬ (z : Int) ≤ (vk : Int) := by omega
            have hgn : ¬ z ≤ vk := by omega
            have hgl : vk < z := by omega
            have hvz : (vk : Int) < (z : Int) := by omega
            have g0 := fun W (e : Ext w7 W) => HG0.out W e
            have a0 := fun W (e : Ext w7 W) => A0.out W (he7.trans e)
            have hself : (y.dir.toList != y.dir.toList) = false := by simp
            clear hLk hqt hvk1
            go_wp2
            refine wp_region_hold (fun W => Ext w7 W) 14 [(0, true), (1, true), (2, true), (3, true), (4, true), (5, true), (6, true), (7, true), (8, true), (9, true), (10, true), (11, true), (12, true), (13, true)] (by kernel_rfl) (by kernel_rfl) ?_ ?_
            · show Ext _ _; (repeat' (first | exact Ext.refl _ | assumption | refine Ext.alloc ?_ _ | refine Ext.drew ?_ | refine Ext.drewN ?_ _ | refine Ext.trans ?_ (by assumption)))
            (repeat (first | (apply hw_read (by rfl) (by rfl); (· (intro W hW; (try dsimp only at hW); go_simp; (first | done | rfl | (rw [if_pos] <;> first | omega | rfl)))); (try simp only [Act.put, List.setIfInBounds_toArray, List.set_cons_zero, List.set_cons_succ])) | (refine hw_skip (by rfl) (by rfl) ?_; (try simp only [Act.put, List.setIfInBounds_toArray, List.set_cons_zero, List.set_cons_succ]))))
            (refine hw_nil ?_; (try simp only [List.drop_succ_cons, List.drop_zero]))
            go_wp2
            refine NoPanic.normal ?_
            (try dsimp only [Exit.then])
            clear g0 a0
            go_wp2
            go_roundw
            case rel => exact ⟨k + 1, by omega, by rw [Hvk1.out]; simp, by go_num, (he.trans he7).trans (Ext.refl _).drew⟩
            case measure => simp [RowKit.intOf]; omega
          · have hqt : qtOver s t y = false := by rw [Hqo.out]; exact decide_eq_false hov
            have Hvk1 : Hid (ov (k + 1) = vk) := Lib.hid (by rw [Hst.out, hqt]; simp)
            clear hqt
            go_wp2
            go_roundw
            case rel => exact ⟨k + 1, by omega, by rw [Hvk1.out], by go_num, he.trans he7⟩
            case measure => simp [RowKit.intOf]; omega
        · obtain rfl : k = r := by omega
          have hz9 : ov k = z := by
            rw [← Hz.out, HLe.out, Hov.out, List.take_of_length_le (by rw [Hr.out]; exact Nat.le_refl _)]
          rw [hz9]
          clear hz9
          go_wp2
          go_ret
          exact ⟨by simp, E6.trans he⟩
set_option maxHeartbeats 1000000 in
theorem FnAllowLess_big {A : Option Addr} {n c : Nat} {v : Value} (w : World) (hn : 1048576 < n) (hm : n ≤ maxLen) : Calls Tryz.prog 5 #[.slice A n c, v] w (Ret (.bool true) w) := by
  unfold maxLen at hm
  have h : (1048576 : Int) < (n : Int) := by omega
  go_enter Tryz.func5, Tryz.ntmps5
  go_wp2
  go_ret
  exact ⟨rfl, Ext.refl w⟩
set_option maxHeartbeats 1000000 in
theorem FnAllowLess_big2 {A : Option Addr} {n c : Nat} {v : Value} {xs : List Int} (w : World) (h : Bys w v xs) (hl : xs.length ≤ 1048576) (hn : 1048576 < n) (hm : n ≤ maxLen) : Calls Tryz.prog 5 #[v, .slice A n c] w (Ret (.bool true) w) := by
  unfold maxLen at hm
  have h1 : (1048576 : Int) < (n : Int) := by omega
  obtain ⟨A0, c0, rfl, -⟩ := h
  have h2 : ¬ (1048576 : Int) < (xs.length : Int) := by omega
  go_enter Tryz.func5, Tryz.ntmps5
  go_wp2
  go_ret
  exact ⟨rfl, Ext.refl w⟩
set_option maxRecDepth 8000 in
set_option maxHeartbeats 4000000 in
theorem FnAllowLess_c {v : Value} {xs : List Int} (w : World) (h : Bys w v xs) (hm : ML w) (hl : xs.length ≤ 1048576) {v2 : Value} {ys : List Int} (h2 : Bys w v2 ys) (hl2 : ys.length ≤ 1048576) {a : Addr} (hE : EB a w) : Calls Tryz.prog 5 #[v, v2] w (Ret (.bool true) w) := by
  have H := Lib.hid h
  obtain ⟨A0, c0, rfl, -⟩ := h
  have HM := Lib.hid hm; clear hm
  have HE := Lib.hid hE; clear hE
  have hn : ¬ (1048576 : Int) < (xs.length : Int) := by omega
  obtain ⟨A8, c8, rfl, -⟩ := h2
  obtain ⟨y, hy⟩ : ∃ n, ys.length = n := ⟨_, rfl⟩
  rw [hy] at hl2 ⊢
  clear hy
  have hn2 : ¬ (1048576 : Int) < (y : Int) := by omega
  go_enter Tryz.func5, Tryz.ntmps5
  go_wp2_with fail
  refine (DrawQuotasAllow_c _ H.out).mono ?_
  rintro e w1 ⟨us, ut, un, vq, ql, p, sz, rfl, ⟨s, t, l, hS, hT, hN, ht12, hl7, hlt12⟩, hQ, hq5, hp, hsz1, hsz2, he1⟩
  obtain ⟨A1, c1, rfl, hSs⟩ := id hS
  obtain ⟨A2, c2, rfl, hTs⟩ := id hT
  obtain ⟨A3, c3, rfl, hNs⟩ := id hN
  obtain ⟨A4, c4, rfl, hQs⟩ := id hQ
  have HM1 := Lib.hid (HM.out.ext he1); have HE1 := Lib.hid (HE.out.ext he1)
  obtain ⟨m, hm⟩ : ∃ n, s.length = n := ⟨_, rfl⟩
  obtain ⟨n, hn⟩ : ∃ n, t.length = n := ⟨_, rfl⟩
  obtain ⟨q, hq⟩ : ∃ n, l.length = n := ⟨_, rfl⟩
  obtain ⟨r, hr⟩ : ∃ n, ql.length = n := ⟨_, rfl⟩
  have Hm := Lib.hid hm; have Hn := Lib.hid hn; have Hq := Lib.hid hq; have Hr := Lib.hid hr
  have hS2 : Hds w.heap.size w1 (.slice A1 m c1) s := by rw [← hm]; exact hS
  have hT2 : Its w.heap.size w1 (.slice A2 n c2) t := by rw [← hn]; exact hT
  have hN2 : Sns w.heap.size w1 (.slice A3 q c3) l := by rw [← hq]; exact hN
  have hQ2 : Qts w.heap.size w1 (.slice A4 r c4) ql := by rw [← hr]; exact hQ
  rw [hr] at hq5
  have HS := Lib.hid hS2; have HT := Lib.hid hT2; have HN := Lib.hid hN2; have HQ := Lib.hid hQ2; have HQs := Lib.hid hQs
  clear hS hT hN hT2 hS2 hN2 hTs hSs hNs hlt12 hQ hQ2 hQs
  rw [hm, hn, hq, hr]
  clear hm hn hq hr
  go_wp2_with fail
  have hbx := Blk.new w1 27 #[.slice A1 m c1, .slice A2 n c2, .slice A3 q c3]
  have e1b : Ext w1 (w1.alloc (.cells #[.slice A1 m c1, .slice A2 n c2, .slice A3 q c3] 27)) := (Ext.refl _).alloc _
  obtain ⟨g1, hg1⟩ : ∃ g, w1.heap.size = g := ⟨_, rfl⟩
  rw [hg1] at hbx
  generalize hb1 : w1.alloc (.cells #[.slice A1 m c1, .slice A2 n c2, .slice A3 q c3] 27) = b1 at *
  have X1_0 := Lib.hid fun W (e : Ext b1 W) => hbx.at_ (i := 0) (u := .slice A1 m c1) rfl W e
  have X1_1 := Lib.hid fun W (e : Ext b1 W) => hbx.at_ (i := 1) (u := .slice A2 n c2) rfl W e
  have X1_2 := Lib.hid fun W (e : Ext b1 W) => hbx.at_ (i := 2) (u := .slice A3 q c3) rfl W e
  clear hbx hb1
  have E1 := he1.trans e1b
  have HP := Lib.hid hp
  have hsi : inI sz := by unfold inI; omega
  clear hp
  have CA : Hid (∀ W v ql' sz', Ext w1 W → Qts 0 W v ql' → inI sz' → Calls Tryz.prog 23 #[.agg #[.slice A1 m c1, .slice A2 n c2, .slice A3 q c3], v, .string p, .int .i64 sz'] W (Ret (.bool (allowOk s t l ql' p sz')) W)) := Lib.hid fun W v ql' sz' e hq hi => QuotasAllow_c p sz' W (HS.out.ext e) (HT.out.ext e) (HN.out.ext e) hq HP.out hi (HM1.out.ext e) (HE1.out.ext e)
  have CS : Hid (∀ W, Ext w1 W → Calls Tryz.prog 24 #[.agg #[.slice A1 m c1, .slice A2 n c2, .slice A3 q c3], .slice A4 r c4, .string p, .int .i64 sz] W (Ret (.bool (allowOk s t l ql p sz)) W)) := Lib.hid fun W e => specQuotasAllow_c p sz W (HS.out.ext e) (HT.out.ext e) (HN.out.ext e) (HQ.out.ext e) HP.out hsi
  have HQ0 : Hid (∀ W, Ext w1 W → Qts 0 W (.slice A4 r c4) ql) := Lib.hid fun W e => (HQ.out.ext e).keep (Nat.zero_le _) (fun _ _ _ => rfl)
  refine (CA.out b1 _ ql sz e1b (HQ0.out b1 e1b) hsi).mono ?_
  obtain ⟨ok, hok⟩ : ∃ b, allowOk s t l ql p sz = b := ⟨_, rfl⟩
  rw [hok] at CS ⊢
  have Hok := Lib.hid hok
  clear hok
  rintro e w2 ⟨rfl, he2⟩
  have E2 := E1.trans he2
  have e12 := e1b.trans he2
  have q0 := X1_0.out w2 he2; have q1 := X1_1.out w2 he2; have q2 := X1_2.out w2 he2
  go_wp2_with fail
  refine (CS.out w2 e12).mono ?_
  rintro e w3 ⟨rfl, he3⟩
  have E3 := E2.trans he3
  have e13 := e12.trans he3
  have XO0 := Lib.hid fun W (e : Ext w3 W) => X1_0.out W ((he2.trans he3).trans e); have XO1 := Lib.hid fun W (e : Ext w3 W) => X1_1.out W ((he2.trans he3).trans e); have XO2 := Lib.hid fun W (e : Ext w3 W) => X1_2.out W ((he2.trans he3).trans e)
  clear q0 q1 q2 X1_0 X1_1 X1_2 CS
  cases ok with
  | false =>
    go_wp2
    go_ret
    exact ⟨rfl, E3⟩
  | true =>
    obtain ⟨hz0, hz32⟩ := allow_size Hok.out
    have hw1 : IntKind.i64.wrap (sz + 1) = sz + 1 := IntWalk.i64_in _ (by omega)
    have hne : ¬ sz + 1 = 0 := by omega
    obtain ⟨mo, hmo⟩ : ∃ x, (y : Int).tmod (sz + 1) = x := ⟨_, rfl⟩
    have hmb : 0 ≤ mo ∧ mo ≤ sz := by
      rw [← hmo]
      have h1 := Int.tmod_nonneg (sz + 1) (show (0 : Int) ≤ (y : Int) by omega)
      have h2 := Int.tmod_lt_of_pos (y : Int) (show (0 : Int) < sz + 1 by omega)
      omega
    have hmi : inI mo := by unfold inI; omega
    have C1 : Hid (∀ W, Ext w1 W → Calls Tryz.prog 23 #[.agg #[.slice A1 m c1, .slice A2 n c2, .slice A3 q c3], .slice A4 r c4, .string p, .int .i64 mo] W (Ret (.bool true) W)) := Lib.hid fun W e => by
      have := CA.out W _ ql mo e (HQ0.out W e) hmi
      rwa [allow_less Hok.out hmb.1 hmb.2] at this
    have C2 : Hid (∀ W v, Ext w1 W → Qts 0 W v [] → Calls Tryz.prog 23 #[.agg #[.slice A1 m c1, .slice A2 n c2, .slice A3 q c3], v, .string p, .int .i64 sz] W (Ret (.bool true) W)) := Lib.hid fun W v e hq => by
      have := CA.out W v [] sz e hq hsi
      rwa [allow_none Hok.out] at this
    clear CA
    have y0 := fun W (e : Ext w3 W) => XO0.out W e; have y1 := fun W (e : Ext w3 W) => XO1.out W e; have y2 := fun W (e : Ext w3 W) => XO2.out W e
    go_wp2
    refine wp_region_hold (fun W => Ext w3 W) 14 [(0, true), (1, true), (2, true), (3, true), (4, true), (5, true), (6, true), (7, true), (8, false), (9, true), (10, true), (12, true), (13, true), (11, false)] (by kernel_rfl) (by kernel_rfl) ?_ ?_
    · show Ext _ _; (repeat' (first | exact Ext.refl _ | assumption | refine Ext.alloc ?_ _ | refine Ext.drew ?_ | refine Ext.drewN ?_ _ | refine Ext.trans ?_ (by assumption)))
    (repeat (first | (apply hw_read (by rfl) (by rfl); (· (intro W hW; (try dsimp only at hW); go_simp; (first | done | rfl | (rw [if_pos] <;> first | omega | rfl)))); (try simp only [Act.put, List.setIfInBounds_toArray, List.set_cons_zero, List.set_cons_succ])) | (refine hw_skip (by rfl) (by rfl) ?_; (try simp only [Act.put, List.setIfInBounds_toArray, List.set_cons_zero, List.set_cons_succ]))))
    refine hw_step (by rfl) ?_
    go_wp2_with (go_at_call 23; refine (C1.out _ (e13.trans (Ext.refl _).drew)).mono ?_; rintro e w5 ⟨rfl, he50⟩)
    have he5 := (Ext.refl w3).drew.trans he50
    refine ⟨he5, ?_⟩
    (repeat (first | (apply hw_read (by rfl) (by rfl); (· (intro W hW; (try dsimp only at hW); go_simp; (first | done | rfl | (rw [if_pos] <;> first | omega | rfl)))); (try simp only [Act.put, List.setIfInBounds_toArray, List.set_cons_zero, List.set_cons_succ])) | (refine hw_skip (by rfl) (by rfl) ?_; (try simp only [Act.put, List.setIfInBounds_toArray, List.set_cons_zero, List.set_cons_succ]))))
    refine hw_step (by rfl) ?_
    have eB := (Ext.refl w5).alloc (.cells #[] 47)
    have CC := C2.out _ (.slice (some ⟨w5.heap.size, 0, none⟩) 0 0) (e13.trans (he5.trans eB)) (SlOf.empty _ _ _ _ _ _ _ (Nat.zero_le _) (fun h => by cases h))
    clear y0 y1 y2
    go_wp2
    refine ⟨he5.trans eB, ?_⟩
    (try (repeat (first | (apply hw_read (by rfl) (by rfl); (· (intro W hW; (try dsimp only at hW); go_simp; (first | done | rfl | (rw [if_pos] <;> first | omega | rfl)))); (try simp only [Act.put, List.setIfInBounds_toArray, List.set_cons_zero, List.set_cons_succ])) | (refine hw_skip (by rfl) (by rfl) ?_; (try simp only [Act.put, List.setIfInBounds_toArray, List.set_cons_zero, List.set_cons_succ])))))
    (refine hw_nil ?_; (try simp only [List.drop_succ_cons, List.drop_zero]))
    go_wp2_with (go_at_call 23; refine CC.mono ?_; rintro e w6 ⟨rfl, he6⟩)
    refine NoPanic.normal ?_
    (try dsimp only [Exit.then])
    go_wp2
    go_ret
    exact ⟨rfl, (E3.trans (he5.trans eB)).trans he6⟩
end Go.Sf
