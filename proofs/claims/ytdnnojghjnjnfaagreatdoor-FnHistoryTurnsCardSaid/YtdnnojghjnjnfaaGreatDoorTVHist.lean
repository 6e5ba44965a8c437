/- Laws of drawn disks: histories. -/
import Derived.Test.YtdnnojghjnjnfaaGreatDoorHL
import Derived.Test.YtdnnojghjnjnfaaGreatDoorHJ
import Derived.Test.YtdnnojghjnjnfaaGreatDoorHG
import Derived.Test.YtdnnojghjnjnfaaGreatDoorHK
import Derived.Test.YtdnnojghjnjnfaaGreatDoorHI
namespace Go.Sf
open Go Go.RowKit Go.Proofs
set_option maxHeartbeats 1000000 in
theorem FnHistoryTurns_big {A : Option Addr} {n c : Nat} (w : World) (hn : 1048576 < n) (hm : n ≤ maxLen) : Calls Tryz.prog 12 #[.slice A n c] w (Ret (.bool true) w) := by
  unfold maxLen at hm
  have h : (1048576 : Int) < (n : Int) := by omega
  go_enter Tryz.func12, Tryz.ntmps12
  go_wp2
  go_ret
  exact ⟨rfl, Ext.refl w⟩
set_option maxRecDepth 8000 in
set_option maxHeartbeats 4000000 in
theorem FnHistoryTurns_c {v : Value} {xs : List Int} (w : World) (h : Bys w v xs) (hm : ML w) (hl : xs.length ≤ 1048576) : Calls Tryz.prog 12 #[v] w (Ret (.bool true) w) := by
  have H := Lib.hid h
  obtain ⟨A0, c0, rfl, -⟩ := h
  have HM := Lib.hid hm; clear hm
  have hn : ¬ (1048576 : Int) < (xs.length : Int) := by omega
  go_enter Tryz.func12, Tryz.ntmps12
  go_wp2_with fail
  refine (DrawHistoryOf_c _ H.out).mono ?_
  rintro e w1 ⟨us, ut, un, p, rfl, ⟨s, t, l, hS, hT, hN, ht12, hl7, hlt12⟩, hp, he1⟩
  obtain ⟨A1, c1, rfl, hSs⟩ := id hS
  obtain ⟨A2, c2, rfl, hTs⟩ := id hT
  obtain ⟨A3, c3, rfl, hNs⟩ := id hN
  have HM1 := Lib.hid (HM.out.ext he1)
  obtain ⟨m, hm⟩ : ∃ n, s.length = n := ⟨_, rfl⟩
  obtain ⟨n, hn⟩ : ∃ n, t.length = n := ⟨_, rfl⟩
  obtain ⟨q, hq⟩ : ∃ n, l.length = n := ⟨_, rfl⟩
  have Hm := Lib.hid hm; have Hn := Lib.hid hn; have Hq := Lib.hid hq
  have hS2 : Hds w.heap.size w1 (.slice A1 m c1) s := by rw [← hm]; exact hS
  have hT2 : Its w.heap.size w1 (.slice A2 n c2) t := by rw [← hn]; exact hT
  have hN2 : Sns w.heap.size w1 (.slice A3 q c3) l := by rw [← hq]; exact hN
  rw [hn] at ht12; rw [hq] at hl7
  have HS := Lib.hid hS2; have HT := Lib.hid hT2; have HN := Lib.hid hN2; have HNs := Lib.hid hNs; have HTs := Lib.hid hTs; have HLT := Lib.hid hlt12; have HP := Lib.hid hp
  clear hS hT hN hT2 hS2 hN2 hTs hSs hNs hlt12 hp
  rw [hm, hn, hq]
  clear hm hn hq
  go_wp2_with fail
  have hbx := Blk.new w1 40 #[.slice A1 m c1, .slice A2 n c2, .slice A3 q c3]
  have e1b : Ext w1 (w1.alloc (.cells #[.slice A1 m c1, .slice A2 n c2, .slice A3 q c3] 40)) := (Ext.refl _).alloc _
  obtain ⟨g1, hg1⟩ : ∃ g, w1.heap.size = g := ⟨_, rfl⟩
  rw [hg1] at hbx
  generalize hb1 : w1.alloc (.cells #[.slice A1 m c1, .slice A2 n c2, .slice A3 q c3] 40) = b1 at *
  have X1_0 := Lib.hid fun W (e : Ext b1 W) => hbx.at_ (i := 0) (u := .slice A1 m c1) rfl W e
  have X1_1 := Lib.hid fun W (e : Ext b1 W) => hbx.at_ (i := 1) (u := .slice A2 n c2) rfl W e
  have X1_2 := Lib.hid fun W (e : Ext b1 W) => hbx.at_ (i := 2) (u := .slice A3 q c3) rfl W e
  clear hbx hb1
  have E1 := he1.trans e1b
  have Hh := Lib.hid (hist_alt s t l p)
  have Hh2 : Hid (histOf s t l p ≠ [] → diskOk s t l = true ∧ pathOk p = true ∧ ∃ (x0 xl : Tn) (y : Sn), (histOf s t l p)[0]? = some x0 ∧ x0.kind = 1 ∧ (histOf s t l p)[(histOf s t l p).length - 1]? = some xl ∧ l[l.length - 1]? = some y ∧ (findIt y.tree p).isSome = !decide (xl.kind = 2)) := Lib.hid fun h => hist_some h
  have Hh3 : Hid (diskOk s t l = true → pathOk p = true → decide (histOf s t l p = []) = !someK p l l.length) := Lib.hid fun h1 h2 => hist_none h1 h2
  have Ci := HistoryOf_c p b1 (HS.out.ext e1b) (HT.out.ext e1b) (HN.out.ext e1b) HP.out (HM1.out.ext e1b)
  have Cr : Hid (∀ W, Ext w1 W → Calls Tryz.prog 43 #[.agg #[.slice A1 m c1, .slice A2 n c2, .slice A3 q c3], .string p] W (RetP (fun r w' => Tns W.heap.size w' r (histOf s t l p)) W)) := Lib.hid fun W e => specHistoryOf_c p W (HS.out.ext e) (HT.out.ext e) (HN.out.ext e) HP.out
  obtain ⟨o, ho⟩ : ∃ o, histOf s t l p = o := ⟨_, rfl⟩
  rw [ho] at Ci Cr Hh Hh2 Hh3
  clear ho
  refine Ci.mono ?_
  rintro e w2 ⟨u2, rfl, hI2, he2⟩
  obtain ⟨A5, c5, rfl, hPs⟩ := id hI2
  obtain ⟨r, hr⟩ : ∃ n, o.length = n := ⟨_, rfl⟩
  have Hr := Lib.hid hr
  rw [hr] at hI2 ⊢
  have HI2 := Lib.hid hI2; have HPs := Lib.hid hPs
  have hrq : r ≤ q := by have := Hh.out.2.1; rw [hr, Hq.out] at this; exact this
  have E2 := E1.trans he2
  have e12 := e1b.trans he2
  clear hI2 hPs hr Ci
  have q0 := X1_0.out w2 he2; have q1 := X1_1.out w2 he2; have q2 := X1_2.out w2 he2
  go_wp2_with fail
  refine (Cr.out w2 e12).mono ?_
  rintro e w3 ⟨u3, rfl, hI3, he3⟩
  obtain ⟨A4, c4, rfl, -⟩ := id hI3
  rw [Hr.out] at hI3 ⊢
  have HI3 := Lib.hid hI3
  have Cs : Hid (∀ W, Ext w3 W → Calls Tryz.prog 44 #[.slice A5 r c5, .slice A4 r c4] W (Ret (.bool true) W)) := Lib.hid fun W e => laws_sameTurns_c W (HI2.out.ext (he3.trans e)) (HI3.out.ext e)
  have e13 := e12.trans he3
  have XO0 := Lib.hid fun W (e : Ext w3 W) => X1_0.out W ((he2.trans he3).trans e); have XO1 := Lib.hid fun W (e : Ext w3 W) => X1_1.out W ((he2.trans he3).trans e); have XO2 := Lib.hid fun W (e : Ext w3 W) => X1_2.out W ((he2.trans he3).trans e)
  have E3 := E2.trans he3
  clear hI3 q0 q1 q2 X1_0 X1_1 X1_2 Cr
  go_wp2_with fail
  refine (Cs.out w3 (Ext.refl _)).mono ?_
  rintro e w4 ⟨rfl, he4⟩
  have e14 := e13.trans he4
  go_wp2
  go_loopw [7, 8] (fun b i wr => ∃ k : Nat, k ≤ r ∧ b = .bool (thereK false o k) ∧ i = .int .i64 k ∧ Ext w4 wr) (fun _ i _ => r - (RowKit.intOf i).toNat)
  case atStart => exact ⟨0, by omega, rfl, rfl, Ext.refl _⟩
  case round =>
    obtain ⟨k, hk, rfl, rfl, he⟩ := hrel
    by_cases hlt : k < r
    · obtain ⟨x, hx⟩ := get_of_lt (l := o) (k := k) (by rw [Hr.out]; exact hlt)
      obtain ⟨a1, a2⟩ := alt_at o false k x Hh.out.1 hx
      obtain ⟨b, o9, rfl, -, -, -, -, -, p1⟩ := Tns.at_ HPs.out hx
      have p1 := p1 wr ((he3.trans he4).trans he)
      have h3 := Hh.out.2.2 x (List.mem_of_getElem? hx)
      have Hx := Lib.hid hx; have A2 := Lib.hid a2
      clear hx a2
      obtain ⟨bt, hbt⟩ : ∃ bt, thereK false o k = bt := ⟨_, rfl⟩
      rw [hbt] at a1 ⊢
      clear hbt
      rcases h3 with h3 | h3 | h3
      all_goals (
        rw [h3] at p1
        have hb : bt = !decide (x.kind = 1) := by rw [a1]; simp
        rw [h3] at hb
        simp at hb
        subst hb
        have A3 : Hid (thereK false o (k + 1) = !decide (x.kind = 2)) := A2
        rw [h3] at A3
        simp at A3
        clear a1 h3
        go_wp2
        go_roundw
        case rel => exact ⟨k + 1, by omega, by rw [A3.out], by go_num, he⟩
        case measure => simp [RowKit.intOf]; omega)
    · obtain rfl : k = r := by omega
      have x2 := XO2.out wr (he4.trans he)
      go_wp2
      go_ret
      exact ⟨rfl, (E3.trans he4).trans he⟩
set_option maxHeartbeats 1000000 in
theorem FnHistory_big {A : Option Addr} {n c : Nat} (w : World) (hn : 1048576 < n) (hm : n ≤ maxLen) : Calls Tryz.prog 13 #[.slice A n c] w (Ret (.bool true) w) := by
  unfold maxLen at hm
  have h : (1048576 : Int) < (n : Int) := by omega
  go_enter Tryz.func13, Tryz.ntmps13
  go_wp2
  go_ret
  exact ⟨rfl, Ext.refl w⟩
set_option maxRecDepth 8000 in
set_option maxHeartbeats 4000000 in
theorem FnHistory_c {v : Value} {xs : List Int} (w : World) (h : Bys w v xs) (hm : ML w) (hl : xs.length ≤ 1048576) : Calls Tryz.prog 13 #[v] w (Ret (.bool true) w) := by
  have H := Lib.hid h
  obtain ⟨A0, c0, rfl, -⟩ := h
  have HM := Lib.hid hm; clear hm
  have hn : ¬ (1048576 : Int) < (xs.length : Int) := by omega
  go_enter Tryz.func13, Tryz.ntmps13
  go_wp2_with fail
  refine (DrawHistoryOf_c _ H.out).mono ?_
  rintro e w1 ⟨us, ut, un, p, rfl, ⟨s, t, l, hS, hT, hN, ht12, hl7, hlt12⟩, hp, he1⟩
  obtain ⟨A1, c1, rfl, hSs⟩ := id hS
  obtain ⟨A2, c2, rfl, hTs⟩ := id hT
  obtain ⟨A3, c3, rfl, hNs⟩ := id hN
  have HM1 := Lib.hid (HM.out.ext he1)
  obtain ⟨m, hm⟩ : ∃ n, s.length = n := ⟨_, rfl⟩
  obtain ⟨n, hn⟩ : ∃ n, t.length = n := ⟨_, rfl⟩
  obtain ⟨q, hq⟩ : ∃ n, l.length = n := ⟨_, rfl⟩
  have Hm := Lib.hid hm; have Hn := Lib.hid hn; have Hq := Lib.hid hq
  have hS2 : Hds w.heap.size w1 (.slice A1 m c1) s := by rw [← hm]; exact hS
  have hT2 : Its w.heap.size w1 (.slice A2 n c2) t := by rw [← hn]; exact hT
  have hN2 : Sns w.heap.size w1 (.slice A3 q c3) l := by rw [← hq]; exact hN
  rw [hn] at ht12; rw [hq] at hl7
  have HS := Lib.hid hS2; have HT := Lib.hid hT2; have HN := Lib.hid hN2; have HNs := Lib.hid hNs; have HTs := Lib.hid hTs; have HLT := Lib.hid hlt12; have HP := Lib.hid hp
  clear hS hT hN hT2 hS2 hN2 hTs hSs hNs hlt12 hp
  rw [hm, hn, hq]
  clear hm hn hq
  go_wp2_with fail
  have hbx := Blk.new w1 40 #[.slice A1 m c1, .slice A2 n c2, .slice A3 q c3]
  have e1b : Ext w1 (w1.alloc (.cells #[.slice A1 m c1, .slice A2 n c2, .slice A3 q c3] 40)) := (Ext.refl _).alloc _
  obtain ⟨g1, hg1⟩ : ∃ g, w1.heap.size = g := ⟨_, rfl⟩
  rw [hg1] at hbx
  generalize hb1 : w1.alloc (.cells #[.slice A1 m c1, .slice A2 n c2, .slice A3 q c3] 40) = b1 at *
  have X1_0 := Lib.hid fun W (e : Ext b1 W) => hbx.at_ (i := 0) (u := .slice A1 m c1) rfl W e
  have X1_1 := Lib.hid fun W (e : Ext b1 W) => hbx.at_ (i := 1) (u := .slice A2 n c2) rfl W e
  have X1_2 := Lib.hid fun W (e : Ext b1 W) => hbx.at_ (i := 2) (u := .slice A3 q c3) rfl W e
  clear hbx hb1
  have E1 := he1.trans e1b
  have Hh := Lib.hid (hist_alt s t l p)
  have Hh2 : Hid (histOf s t l p ≠ [] → diskOk s t l = true ∧ pathOk p = true ∧ ∃ (x0 xl : Tn) (y : Sn), (histOf s t l p)[0]? = some x0 ∧ x0.kind = 1 ∧ (histOf s t l p)[(histOf s t l p).length - 1]? = some xl ∧ l[l.length - 1]? = some y ∧ (findIt y.tree p).isSome = !decide (xl.kind = 2)) := Lib.hid fun h => hist_some h
  have Hh3 : Hid (diskOk s t l = true → pathOk p = true → decide (histOf s t l p = []) = !someK p l l.length) := Lib.hid fun h1 h2 => hist_none h1 h2
  have Ci := HistoryOf_c p b1 (HS.out.ext e1b) (HT.out.ext e1b) (HN.out.ext e1b) HP.out (HM1.out.ext e1b)
  have Cr : Hid (∀ W, Ext w1 W → Calls Tryz.prog 43 #[.agg #[.slice A1 m c1, .slice A2 n c2, .slice A3 q c3], .string p] W (RetP (fun r w' => Tns W.heap.size w' r (histOf s t l p)) W)) := Lib.hid fun W e => specHistoryOf_c p W (HS.out.ext e) (HT.out.ext e) (HN.out.ext e) HP.out
  obtain ⟨o, ho⟩ : ∃ o, histOf s t l p = o := ⟨_, rfl⟩
  rw [ho] at Ci Cr Hh Hh2 Hh3
  clear ho
  refine Ci.mono ?_
  rintro e w2 ⟨u2, rfl, hI2, he2⟩
  obtain ⟨A5, c5, rfl, hPs⟩ := id hI2
  obtain ⟨r, hr⟩ : ∃ n, o.length = n := ⟨_, rfl⟩
  have Hr := Lib.hid hr
  rw [hr] at hI2 ⊢
  have HI2 := Lib.hid hI2; have HPs := Lib.hid hPs
  have hrq : r ≤ q := by have := Hh.out.2.1; rw [hr, Hq.out] at this; exact this
  have E2 := E1.trans he2
  have e12 := e1b.trans he2
  clear hI2 hPs hr Ci
  have q0 := X1_0.out w2 he2; have q1 := X1_1.out w2 he2; have q2 := X1_2.out w2 he2
  go_wp2_with fail
  refine (Cr.out w2 e12).mono ?_
  rintro e w3 ⟨u3, rfl, hI3, he3⟩
  obtain ⟨A4, c4, rfl, -⟩ := id hI3
  rw [Hr.out] at hI3 ⊢
  have HI3 := Lib.hid hI3
  have Cs : Hid (∀ W, Ext w3 W → Calls Tryz.prog 44 #[.slice A5 r c5, .slice A4 r c4] W (Ret (.bool true) W)) := Lib.hid fun W e => laws_sameTurns_c W (HI2.out.ext (he3.trans e)) (HI3.out.ext e)
  have e13 := e12.trans he3
  have XO0 := Lib.hid fun W (e : Ext w3 W) => X1_0.out W ((he2.trans he3).trans e); have XO1 := Lib.hid fun W (e : Ext w3 W) => X1_1.out W ((he2.trans he3).trans e); have XO2 := Lib.hid fun W (e : Ext w3 W) => X1_2.out W ((he2.trans he3).trans e)
  have E3 := E2.trans he3
  clear hI3 q0 q1 q2 X1_0 X1_1 X1_2 Cr
  go_wp2_with fail
  refine (Cs.out w3 (Ext.refl _)).mono ?_
  rintro e w4 ⟨rfl, he4⟩
  have e14 := e13.trans he4
  by_cases hr0 : r = 0
  · subst hr0
    go_wp2_with fail
    refine (Cs.out w4 he4).mono ?_
    rintro e w5 ⟨rfl, he5⟩
    go_wp2
    go_ret
    exact ⟨rfl, (E3.trans he4).trans he5⟩
  · obtain ⟨hd, hpo, x0, xl, y, hx0, hk0, hxl, hy, hlast⟩ := Hh2.out (fun h => by have := Hr.out; rw [h] at this; exact hr0 this.symm)
    rw [Hr.out] at hxl
    rw [Hq.out] at hy
    have hpos : (0 : Int) < (r : Int) := by omega
    have hq0 : (0 : Int) < (q : Int) := by omega
    have hr0' : ¬ (r : Int) = 0 := by omega
    have x2 := XO2.out w4 he4
    have hq6 : q ≤ 6 := by have := (disk_parts hd).2.2.2.1; rw [Hq.out] at this; exact this
    have hw1 : IntKind.i64.wrap ((q : Int) - 1) = ((q - 1 : Nat) : Int) := by rw [IntWalk.i64_in _ (by omega)]; omega
    have hw2 : IntKind.i64.wrap ((r : Int) - 1) = ((r - 1 : Nat) : Int) := by rw [IntWalk.i64_in _ (by omega)]; omega
    have hlt1 : ((q - 1 : Nat) : Int) < (q : Int) := by omega
    have hlt2 : ((r - 1 : Nat) : Int) < (r : Int) := by omega
    obtain ⟨b3, o3, u3, rfl, -, -, -, hxt, -, g1⟩ := Sns.at_ HNs.out hy
    have htok := ((disk_parts hd).2.2.2.2 y (List.mem_of_getElem? hy)).2.1
    obtain ⟨A6, c6, rfl, -⟩ := id hxt
    have HT6 := Lib.hid hxt; have Htok := Lib.hid htok
    obtain ⟨n6, hn6⟩ : ∃ n, y.tree.length = n := ⟨_, rfl⟩
    rw [hn6] at HT6 g1
    have p1 := g1 w4 e14
    obtain ⟨b5, o5, rfl, -, -, -, -, -, j0⟩ := Tns.at_ HPs.out hx0
    obtain ⟨b5', o5', hb5, -, -, -, -, -, jl⟩ := Tns.at_ HPs.out hxl
    cases hb5
    have Hj0 := Lib.hid j0; have Hjl := Lib.hid jl; have Hlast := Lib.hid hlast; have Hk0 := Lib.hid hk0
    have G1 := Lib.hid g1
    clear g1 hxt hn6 hd hpo hx0 hk0 hxl hy hlast htok j0 jl
    go_wp2_with fail
    have CF := TreeFind_c w4 (HT6.out.ext e14) Htok.out p HP.out (HM1.out.ext e14)
    refine CF.mono ?_
    rintro e w5 ⟨u5, rfl, he5, hV5⟩
    obtain ⟨u6, rfl, -, hI6⟩ := hV5
    obtain ⟨A7, c7, rfl, -⟩ := hI6
    have e25 := (he3.trans he4).trans he5
    have z0 := fun o => Hj0.out (w5.alloc o) (e25.alloc o); have zl := fun o => Hjl.out (w5.alloc o) (e25.alloc o)
    simp only [Hk0.out] at z0
    have hh := Hlast.out
    generalize (findIt y.tree p).isSome = has at *
    clear CF x2 p1
    by_cases hk2 : xl.kind = 2
    · have hh2 : has = false := by rw [hh, hk2]; rfl
      subst hh2
      simp only [hk2] at zl
      clear hh
      go_wp2
      go_ret
      exact ⟨rfl, (((E3.trans he4).trans he5)).alloc _⟩
    · have hk2' : (xl.kind == 2) = false := by rw [beq_eq_false_iff_ne]; exact hk2
      have : has = true := by rw [hh]; simp [hk2]
      subst this
      clear hh hk2
      go_wp2
      go_ret
      exact ⟨rfl, (((E3.trans he4).trans he5)).alloc _⟩
set_option maxHeartbeats 1000000 in
theorem FnHistoryNone_big {A : Option Addr} {n c : Nat} (w : World) (hn : 1048576 < n) (hm : n ≤ maxLen) : Calls Tryz.prog 14 #[.slice A n c] w (Ret (.bool true) w) := by
  unfold maxLen at hm
  have h : (1048576 : Int) < (n : Int) := by omega
  go_enter Tryz.func14, Tryz.ntmps14
  go_wp2
  go_ret
  exact ⟨rfl, Ext.refl w⟩
set_option maxRecDepth 8000 in
set_option maxHeartbeats 4000000 in
theorem FnHistoryNone_c {v : Value} {xs : List Int} (w : World) (h : Bys w v xs) (hm : ML w) (hl : xs.length ≤ 1048576) : Calls Tryz.prog 14 #[v] w (Ret (.bool true) w) := by
  have H := Lib.hid h
  obtain ⟨A0, c0, rfl, -⟩ := h
  have HM := Lib.hid hm; clear hm
  have hn : ¬ (1048576 : Int) < (xs.length : Int) := by omega
  go_enter Tryz.func14, Tryz.ntmps14
  go_wp2_with fail
  refine (DrawHistoryOf_c _ H.out).mono ?_
  rintro e w1 ⟨us, ut, un, p, rfl, ⟨s, t, l, hS, hT, hN, ht12, hl7, hlt12⟩, hp, he1⟩
  obtain ⟨A1, c1, rfl, hSs⟩ := id hS
  obtain ⟨A2, c2, rfl, hTs⟩ := id hT
  obtain ⟨A3, c3, rfl, hNs⟩ := id hN
  have HM1 := Lib.hid (HM.out.ext he1)
  obtain ⟨m, hm⟩ : ∃ n, s.length = n := ⟨_, rfl⟩
  obtain ⟨n, hn⟩ : ∃ n, t.length = n := ⟨_, rfl⟩
  obtain ⟨q, hq⟩ : ∃ n, l.length = n := ⟨_, rfl⟩
  have Hm := Lib.hid hm; have Hn := Lib.hid hn; have Hq := Lib.hid hq
  have hS2 : Hds w.heap.size w1 (.slice A1 m c1) s := by rw [← hm]; exact hS
  have hT2 : Its w.heap.size w1 (.slice A2 n c2) t := by rw [← hn]; exact hT
  have hN2 : Sns w.heap.size w1 (.slice A3 q c3) l := by rw [← hq]; exact hN
  rw [hn] at ht12; rw [hq] at hl7
  have HS := Lib.hid hS2; have HT := Lib.hid hT2; have HN := Lib.hid hN2; have HNs := Lib.hid hNs; have HTs := Lib.hid hTs; have HLT := Lib.hid hlt12; have HP := Lib.hid hp
  clear hS hT hN hT2 hS2 hN2 hTs hSs hNs hlt12 hp
  rw [hm, hn, hq]
  clear hm hn hq
  go_wp2_with fail
  have hbx := Blk.new w1 40 #[.slice A1 m c1, .slice A2 n c2, .slice A3 q c3]
  have e1b : Ext w1 (w1.alloc (.cells #[.slice A1 m c1, .slice A2 n c2, .slice A3 q c3] 40)) := (Ext.refl _).alloc _
  obtain ⟨g1, hg1⟩ : ∃ g, w1.heap.size = g := ⟨_, rfl⟩
  rw [hg1] at hbx
  generalize hb1 : w1.alloc (.cells #[.slice A1 m c1, .slice A2 n c2, .slice A3 q c3] 40) = b1 at *
  have X1_0 := Lib.hid fun W (e : Ext b1 W) => hbx.at_ (i := 0) (u := .slice A1 m c1) rfl W e
  have X1_1 := Lib.hid fun W (e : Ext b1 W) => hbx.at_ (i := 1) (u := .slice A2 n c2) rfl W e
  have X1_2 := Lib.hid fun W (e : Ext b1 W) => hbx.at_ (i := 2) (u := .slice A3 q c3) rfl W e
  clear hbx hb1
  have E1 := he1.trans e1b
  have Hh := Lib.hid (hist_alt s t l p)
  have Hh2 : Hid (histOf s t l p ≠ [] → diskOk s t l = true ∧ pathOk p = true ∧ ∃ (x0 xl : Tn) (y : Sn), (histOf s t l p)[0]? = some x0 ∧ x0.kind = 1 ∧ (histOf s t l p)[(histOf s t l p).length - 1]? = some xl ∧ l[l.length - 1]? = some y ∧ (findIt y.tree p).isSome = !decide (xl.kind = 2)) := Lib.hid fun h => hist_some h
  have Hh3 : Hid (diskOk s t l = true → pathOk p = true → decide (histOf s t l p = []) = !someK p l l.length) := Lib.hid fun h1 h2 => hist_none h1 h2
  have Ci := HistoryOf_c p b1 (HS.out.ext e1b) (HT.out.ext e1b) (HN.out.ext e1b) HP.out (HM1.out.ext e1b)
  have Cr : Hid (∀ W, Ext w1 W → Calls Tryz.prog 43 #[.agg #[.slice A1 m c1, .slice A2 n c2, .slice A3 q c3], .string p] W (RetP (fun r w' => Tns W.heap.size w' r (histOf s t l p)) W)) := Lib.hid fun W e => specHistoryOf_c p W (HS.out.ext e) (HT.out.ext e) (HN.out.ext e) HP.out
  obtain ⟨o, ho⟩ : ∃ o, histOf s t l p = o := ⟨_, rfl⟩
  rw [ho] at Ci Cr Hh Hh2 Hh3
  clear ho
  refine Ci.mono ?_
  rintro e w2 ⟨u2, rfl, hI2, he2⟩
  obtain ⟨A5, c5, rfl, hPs⟩ := id hI2
  obtain ⟨r, hr⟩ : ∃ n, o.length = n := ⟨_, rfl⟩
  have Hr := Lib.hid hr
  rw [hr] at hI2 ⊢
  have HI2 := Lib.hid hI2; have HPs := Lib.hid hPs
  have hrq : r ≤ q := by have := Hh.out.2.1; rw [hr, Hq.out] at this; exact this
  have E2 := E1.trans he2
  have e12 := e1b.trans he2
  clear hI2 hPs hr Ci
  have q0 := X1_0.out w2 he2; have q1 := X1_1.out w2 he2; have q2 := X1_2.out w2 he2
  go_wp2_with fail
  refine (Cr.out w2 e12).mono ?_
  rintro e w3 ⟨u3, rfl, hI3, he3⟩
  obtain ⟨A4, c4, rfl, -⟩ := id hI3
  rw [Hr.out] at hI3 ⊢
  have HI3 := Lib.hid hI3
  have Cs : Hid (∀ W, Ext w3 W → Calls Tryz.prog 44 #[.slice A5 r c5, .slice A4 r c4] W (Ret (.bool true) W)) := Lib.hid fun W e => laws_sameTurns_c W (HI2.out.ext (he3.trans e)) (HI3.out.ext e)
  have e13 := e12.trans he3
  have XO0 := Lib.hid fun W (e : Ext w3 W) => X1_0.out W ((he2.trans he3).trans e); have XO1 := Lib.hid fun W (e : Ext w3 W) => X1_1.out W ((he2.trans he3).trans e); have XO2 := Lib.hid fun W (e : Ext w3 W) => X1_2.out W ((he2.trans he3).trans e)
  have E3 := E2.trans he3
  clear hI3 q0 q1 q2 X1_0 X1_1 X1_2 Cr
  go_wp2_with fail
  refine (Cs.out w3 (Ext.refl _)).mono ?_
  rintro e w4 ⟨rfl, he4⟩
  have e14 := e13.trans he4
  have x0 := XO0.out w4 he4; have x1 := XO1.out w4 he4; have x2 := XO2.out w4 he4
  have CV := specDiskValid_c w4 (HS.out.ext e14) (HT.out.ext e14) (HN.out.ext e14)
  obtain ⟨dv, hdv⟩ : ∃ b, diskOk s t l = b := ⟨_, rfl⟩
  rw [hdv] at CV
  have Hdv := Lib.hid hdv; clear hdv
  go_wp2_with fail
  refine CV.mono ?_
  rintro e w5 ⟨rfl, he5⟩
  have e35 := he4.trans he5
  clear CV x0 x1 x2
  cases dv with
  | false =>
    go_wp2_with fail
    refine (Cs.out w5 e35).mono ?_
    rintro e w6 ⟨rfl, he6⟩
    go_wp2
    go_ret
    exact ⟨rfl, (E3.trans e35).trans he6⟩
  | true =>
    have CP := specPathValid_c p w5 HP.out
    obtain ⟨pv, hpv⟩ : ∃ b, pathOk p = b := ⟨_, rfl⟩
    rw [hpv] at CP
    have Hpv := Lib.hid hpv; clear hpv
    go_wp2_with fail
    refine CP.mono ?_
    rintro e w6 ⟨rfl, he6⟩
    have e36 := e35.trans he6
    clear CP
    cases pv with
    | false =>
      go_wp2_with fail
      refine (Cs.out w6 e36).mono ?_
      rintro e w7 ⟨rfl, he7⟩
      go_wp2
      go_ret
      exact ⟨rfl, (E3.trans e36).trans he7⟩
    | true =>
      have Hn3 := Lib.hid (Hh3.out Hdv.out Hpv.out)
      go_wp2
      go_loopw [7, 8] (fun b i wr => ∃ k : Nat, k ≤ q ∧ b = .bool (someK p l k) ∧ i = .int .i64 k ∧ Ext w6 wr) (fun _ i _ => q - (RowKit.intOf i).toNat)
      case atStart => exact ⟨0, by omega, rfl, rfl, Ext.refl _⟩
      case round =>
        obtain ⟨k, hk, rfl, rfl, he⟩ := hrel
        have x2 := XO2.out wr (e36.trans he)
        by_cases hlt : k < q
        · obtain ⟨y, hy⟩ := get_of_lt (l := l) (k := k) (by rw [Hq.out]; exact hlt)
          obtain ⟨b3, o3, u3, rfl, -, -, -, hxt, -, g1⟩ := Sns.at_ HNs.out hy
          have htok := ((disk_parts Hdv.out).2.2.2.2 y (List.mem_of_getElem? hy)).2.1
          have Hsuc := Lib.hid (someK_succ (p := p) hy)
          obtain ⟨A6, c6, rfl, -⟩ := id hxt
          have HT6 := Lib.hid hxt; have Htok := Lib.hid htok
          obtain ⟨n6, hn6⟩ : ∃ n, y.tree.length = n := ⟨_, rfl⟩
          rw [hn6] at HT6 g1
          have e1r := e13.trans (e36.trans he)
          have p1 := g1 wr e1r
          clear g1 hxt hn6 hy htok
          obtain ⟨sb, hsb⟩ : ∃ b, someK p l k = b := ⟨_, rfl⟩
          rw [hsb] at Hsuc ⊢
          clear hsb
          go_wp2_with fail
          have CF := TreeFind_c wr (HT6.out.ext e1r) Htok.out p HP.out (HM1.out.ext e1r)
          refine CF.mono ?_
          rintro e w7 ⟨u5, rfl, he7, hV5⟩
          obtain ⟨u6, rfl, -, hI6⟩ := hV5
          obtain ⟨A7, c7, rfl, -⟩ := hI6
          generalize (findIt y.tree p).isSome = has at *
          clear CF x2 p1
          cases sb with
          | true =>
            go_wp2
            go_roundw
            case rel => exact ⟨k + 1, by omega, by rw [Hsuc.out]; rfl, by go_num, (he.trans he7).alloc _⟩
            case measure => simp [RowKit.intOf]; omega
          | false =>
            go_wp2
            go_roundw
            case rel => exact ⟨k + 1, by omega, by rw [Hsuc.out]; rfl, by go_num, (he.trans he7).alloc _⟩
            case measure => simp [RowKit.intOf]; omega
        · obtain rfl : k = q := by omega
          have hn3 := Hn3.out
          rw [Hq.out] at hn3
          generalize someK p l k = sb at *
          by_cases hr0 : r = 0
          · subst hr0
            have : o = [] := List.length_eq_zero_iff.1 Hr.out
            rw [this] at hn3
            simp at hn3
            subst hn3
            go_wp2
            go_ret
            exact ⟨rfl, (E3.trans e36).trans he⟩
          · have hr0' : ((r : Int) == 0) = false := by rw [beq_eq_false_iff_ne]; omega
            have : o ≠ [] := fun h => by have := Hr.out; rw [h] at this; exact hr0 this.symm
            simp [this] at hn3
            subst hn3
            go_wp2
            go_ret
            exact ⟨rfl, (E3.trans e36).trans he⟩
end Go.Sf
