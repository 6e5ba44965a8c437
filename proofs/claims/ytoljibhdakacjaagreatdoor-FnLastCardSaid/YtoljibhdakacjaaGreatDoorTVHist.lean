/- Laws of drawn disks: histories. -/
import Derived.Test.YtoljibhdakacjaaGreatDoorHL
import Derived.Test.YtoljibhdakacjaaGreatDoorHJ
import Derived.Test.YtoljibhdakacjaaGreatDoorHG
import Derived.Test.YtoljibhdakacjaaGreatDoorHK
import Derived.Test.YtoljibhdakacjaaGreatDoorHI
namespace Go.Sf
open Go Go.RowKit Go.Proofs
set_option maxHeartbeats 1000000 in
theorem FnLast_big {A : Option Addr} {n c : Nat} (w : World) (hn : 1048576 < n) (hm : n ≤ maxLen) : Calls Tryz.prog 3 #[.slice A n c] w (Ret (.bool true) w) := by
  unfold maxLen at hm
  have h : (1048576 : Int) < (n : Int) := by omega
  go_enter Tryz.func3, Tryz.ntmps3
  go_wp2
  go_ret
  exact ⟨rfl, Ext.refl w⟩
set_option maxRecDepth 8000 in
set_option maxHeartbeats 4000000 in
theorem FnLast_c {v : Value} {xs : List Int} (w : World) (h : Bys w v xs) (hm : ML w) (hl : xs.length ≤ 1048576) : Calls Tryz.prog 3 #[v] w (Ret (.bool true) w) := by
  have H := Lib.hid h
  obtain ⟨A0, c0, rfl, -⟩ := h
  have HM := Lib.hid hm; clear hm
  have hn : ¬ (1048576 : Int) < (xs.length : Int) := by omega
  go_enter Tryz.func3, Tryz.ntmps3
  go_wp2_with fail
  refine (DrawHistoryLast_c _ H.out).mono ?_
  rintro e w1 ⟨us, ut, un, p, rfl, ⟨s, t, l, hS, hT, hN, ht12, hl7, hlt12⟩, hp, he1⟩
  obtain ⟨A1, c1, rfl, hSs⟩ := id hS
  obtain ⟨A2, c2, rfl, hTs⟩ := id hT
  obtain ⟨A3, c3, rfl, hNs⟩ := id hN
  have HM1 := Lib.hid (HM.out.ext he1)
  obtain ⟨m, hm⟩ : ∃ n, s.length = n := ⟨_, rfl⟩
  obtain ⟨n, hn⟩ : ∃ n, t.length = n := ⟨_, rfl⟩
  obtain ⟨q, hq⟩ : ∃ n, l.length = n := ⟨_, rfl⟩
  have Hm := Lib.hid hm; have Hn := Lib.hid hn; have Hq := Lib.hid hq
  have hS2 : Hds w.heap.size w1 (.slice A1 m c1) s := by rw [← hm]; exact hS
  have hT2 : Its w.heap.size w1 (.slice A2 n c2) t := by rw [← hn]; exact hT
  have hN2 : Sns w.heap.size w1 (.slice A3 q c3) l := by rw [← hq]; exact hN
  rw [hn] at ht12; rw [hq] at hl7
  have HS := Lib.hid hS2; have HT := Lib.hid hT2; have HN := Lib.hid hN2; have HNs := Lib.hid hNs; have HTs := Lib.hid hTs; have HLT := Lib.hid hlt12; have HP := Lib.hid hp
  clear hS hT hN hT2 hS2 hN2 hTs hSs hNs hlt12 hp
  rw [hm, hn, hq]
  clear hm hn hq
  go_wp2_with fail
  have hbx := Blk.new w1 27 #[.slice A1 m c1, .slice A2 n c2, .slice A3 q c3]
  have e1b : Ext w1 (w1.alloc (.cells #[.slice A1 m c1, .slice A2 n c2, .slice A3 q c3] 27)) := (Ext.refl _).alloc _
  obtain ⟨g1, hg1⟩ : ∃ g, w1.heap.size = g := ⟨_, rfl⟩
  rw [hg1] at hbx
  generalize hb1 : w1.alloc (.cells #[.slice A1 m c1, .slice A2 n c2, .slice A3 q c3] 27) = b1 at *
  have X1_0 := Lib.hid fun W (e : Ext b1 W) => hbx.at_ (i := 0) (u := .slice A1 m c1) rfl W e
  have X1_1 := Lib.hid fun W (e : Ext b1 W) => hbx.at_ (i := 1) (u := .slice A2 n c2) rfl W e
  have X1_2 := Lib.hid fun W (e : Ext b1 W) => hbx.at_ (i := 2) (u := .slice A3 q c3) rfl W e
  clear hbx hb1
  have E1 := he1.trans e1b
  have Hl : Hid (histL s t l p ≠ ⟨#[]⟩ → diskOk s t l = true ∧ ∃ (i : Nat) (y : Sn), l[i]? = some y ∧ y.name = histL s t l p ∧ (readSn s t l y.name p).isSome = true ∧
    ∀ (j : Nat) (z : Sn), l[j]? = some z → (z.name = histL s t l p ↔ j = i) ∧ (i < j → (readSn s t l z.name p).isSome = false)) := Lib.hid fun h => last_told h
  have Ci := HistoryLast_c p b1 (HS.out.ext e1b) (HT.out.ext e1b) (HN.out.ext e1b) HP.out (HM1.out.ext e1b)
  have Cr : Hid (∀ W, Ext w1 W → Calls Tryz.prog 13 #[.agg #[.slice A1 m c1, .slice A2 n c2, .slice A3 q c3], .string p] W (Ret (.string (histL s t l p)) W)) := Lib.hid fun W e => specHistoryLast_c p W (HS.out.ext e) (HT.out.ext e) (HN.out.ext e)
  have CR : Hid (∀ W nm, Ext w1 W → Calls Tryz.prog 14 #[.agg #[.slice A1 m c1, .slice A2 n c2, .slice A3 q c3], .string nm, .string p] W (RetP (OptInts W.heap.size (readSn s t l nm p)) W)) := Lib.hid fun W nm e => (SnapRead_c nm p W (HS.out.ext e) (HT.out.ext e) (HN.out.ext e) HP.out (HM1.out.ext e))
  obtain ⟨o, ho⟩ : ∃ o, histL s t l p = o := ⟨_, rfl⟩
  rw [ho] at Ci Cr Hl
  clear ho
  refine Ci.mono ?_
  rintro e w2 ⟨rfl, he2⟩
  have E2 := E1.trans he2
  have e12 := e1b.trans he2
  have q0 := X1_0.out w2 he2; have q1 := X1_1.out w2 he2; have q2 := X1_2.out w2 he2
  clear Ci
  go_wp2_with fail
  refine (Cr.out w2 e12).mono ?_
  rintro e w3 ⟨rfl, he3⟩
  have e13 := e12.trans he3
  have E3 := E2.trans he3
  have XO0 := Lib.hid fun W (e : Ext w3 W) => X1_0.out W ((he2.trans he3).trans e); have XO1 := Lib.hid fun W (e : Ext w3 W) => X1_1.out W ((he2.trans he3).trans e); have XO2 := Lib.hid fun W (e : Ext w3 W) => X1_2.out W ((he2.trans he3).trans e)
  clear q0 q1 q2 X1_0 X1_1 X1_2 Cr
  by_cases ho : o = ⟨#[]⟩
  · subst ho
    go_wp2
    go_ret
    exact ⟨rfl, E3⟩
  · obtain ⟨hd, i, y, hi, hyn, hys, hall⟩ := Hl.out ho
    have hoe : o.toList.isEmpty = false := emp_false fun e => ho (bl_inj (e.trans (by decide)))
    have hiq : i < q := by rw [← Hq.out]; exact lt_of_get hi
    rw [hyn] at hys
    have Hys := Lib.hid hys; have Hall := Lib.hid hall; have Hi := Lib.hid hi
    have x0 := XO0.out w3 (Ext.refl _); have x1 := XO1.out w3 (Ext.refl _); have x2 := XO2.out w3 (Ext.refl _)
    clear hd hi hyn hys hall
    go_wp2_with fail
    refine (CR.out w3 o e13).mono ?_
    rintro e w4 ⟨u4, rfl, ⟨v4, rfl, -⟩, he4⟩
    rw [Hys.out]
    clear x0 x1 x2
    go_wp2
    go_loopw [9, 10] (fun b k wr => ∃ j : Nat, j ≤ q ∧ b = .bool (decide (i < j)) ∧ k = .int .i64 j ∧ Ext w4 wr) (fun _ k _ => q - (RowKit.intOf k).toNat)
    case atStart => exact ⟨0, by omega, rfl, rfl, Ext.refl _⟩
    case round =>
      obtain ⟨j, hj, rfl, rfl, he⟩ := hrel
      have e3 := he4.trans he
      have x0 := XO0.out wr e3; have x1 := XO1.out wr e3; have x2 := XO2.out wr e3
      by_cases hlt : j < q
      · obtain ⟨z, hz⟩ := get_of_lt (l := l) (k := j) (by rw [Hq.out]; exact hlt)
        obtain ⟨hn1, hn2⟩ := Hall.out j z hz
        obtain ⟨b3, o3, u3, rfl, -, -, -, -, g0, -⟩ := Sns.at_ HNs.out hz
        have p0 := g0 wr (e13.trans e3)
        have G0 := Lib.hid g0
        clear g0 hz
        have X0 := fun W (e : Ext wr W) => XO0.out W (e3.trans e); have X1 := fun W (e : Ext wr W) => XO1.out W (e3.trans e); have X2 := fun W (e : Ext wr W) => XO2.out W (e3.trans e)
        have P0 := fun W (e : Ext wr W) => G0.out W ((e13.trans e3).trans e)
        go_wp2
        refine wp_region_hold (fun W => (W.cell? ⟨g1, 0, none⟩ = some (.slice A1 m c1) ∧ W.cell? ⟨g1, 1, none⟩ = some (.slice A2 n c2) ∧ W.cell? ⟨g1, 2, none⟩ = some (.slice (some ⟨b3, o3, none⟩) q c3)) ∧ W.cell? ⟨b3, o3 + j * 2, none⟩ = some (.string z.name)) 13 [(0, true), (1, true), (2, true), (3, true), (4, true), (5, true), (6, true), (7, true), (8, false), (9, true), (10, true), (11, true), (12, true)] (by kernel_rfl) (by kernel_rfl) ?_ ?_
        · have e := (Ext.refl wr).drew
          exact ⟨⟨X0 _ e, X1 _ e, X2 _ e⟩, P0 _ e⟩
        (repeat (first | (apply hw_read (by rfl) (by rfl); (· (intro W hW; (try dsimp only at hW); go_simp; (first | done | rfl | (rw [if_pos] <;> first | omega | rfl)))); (try simp only [Act.put, List.setIfInBounds_toArray, List.set_cons_zero, List.set_cons_succ])) | (refine hw_skip (by rfl) (by rfl) ?_; (try simp only [Act.put, List.setIfInBounds_toArray, List.set_cons_zero, List.set_cons_succ]))))
        refine hw_step (by rfl) ?_
        go_wp2_with (go_at_call 14; refine (CR.out _ z.name ((e13.trans e3).drew)).mono ?_; rintro e w6 ⟨u6, rfl, ⟨v6, rfl, -⟩, he60⟩)
        have he6 := (Ext.refl wr).drew.trans he60
        (try refine ⟨⟨⟨X0 _ he6, X1 _ he6, X2 _ he6⟩, P0 _ he6⟩, ?_⟩)
        (try (repeat (first | (apply hw_read (by rfl) (by rfl); (· (intro W hW; (try dsimp only at hW); go_simp; (first | done | rfl | (rw [if_pos] <;> first | omega | rfl)))); (try simp only [Act.put, List.setIfInBounds_toArray, List.set_cons_zero, List.set_cons_succ])) | (refine hw_skip (by rfl) (by rfl) ?_; (try simp only [Act.put, List.setIfInBounds_toArray, List.set_cons_zero, List.set_cons_succ])))))
        (refine hw_nil ?_; (try simp only [List.drop_succ_cons, List.drop_zero]))
        go_wp2
        refine NoPanic.normal ?_
        (try dsimp only [Exit.then])
        clear X0 X1 X2 P0
        have e36 := e3.trans he6
        have y2 := XO2.out w6 e36; have y0 := G0.out w6 (e13.trans e36)
        clear x0 x1 x2 p0
        by_cases hij : i < j
        · rw [hn2 hij]
          have hd1 : decide (i < j) = true := by simpa using hij
          rw [hd1]
          go_wp2
          go_roundw
          case rel => exact ⟨j + 1, by omega, by rw [show decide (i < j + 1) = true by simp; omega], by go_num, he.trans he6⟩
          case measure => simp [RowKit.intOf]; omega
        · have hd1 : decide (i < j) = false := by simpa using hij
          rw [hd1]
          by_cases hje : j = i
          · have hnb : (z.name.toList == o.toList) = true := by rw [beq_iff_eq, hn1.2 hje]
            have hjl : i < j + 1 := by omega
            clear hje
            generalize (readSn s t l z.name p).isSome = bb at *
            go_wp2
            go_roundw
            case rel => exact ⟨j + 1, by omega, by rw [decide_eq_true hjl], by go_num, he.trans he6⟩
            case measure => simp [RowKit.intOf]; omega
          · have hnb : (z.name.toList == o.toList) = false := by
              rw [bytes_ne_iff, decide_eq_false_iff_not]; exact fun h => hje (hn1.1 h)
            generalize (readSn s t l z.name p).isSome = bb at *
            go_wp2
            go_roundw
            case rel => exact ⟨j + 1, by omega, by rw [show decide (i < j + 1) = false by simp; omega], by go_num, he.trans he6⟩
            case measure => simp [RowKit.intOf]; omega
      · go_wp2
        go_ret
        exact ⟨rfl, (E3.trans he4).trans he⟩
end Go.Sf
