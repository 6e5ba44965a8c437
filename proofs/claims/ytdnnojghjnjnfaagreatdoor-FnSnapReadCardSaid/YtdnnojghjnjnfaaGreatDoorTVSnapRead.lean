/- Laws of drawn disks: a file of a snapshot has its blocks. -/
import Derived.Test.YtdnnojghjnjnfaaGreatDoorHD
import Derived.Test.YtdnnojghjnjnfaaGreatDoorHK
import Derived.Test.YtdnnojghjnjnfaaGreatDoorTVRead
namespace Go.Sf
open Go Go.RowKit Go.Proofs
set_option maxHeartbeats 1000000 in
theorem FnSnapRead_big {A : Option Addr} {n c : Nat} (w : World) (hn : 1048576 < n) (hm : n ≤ maxLen) : Calls Tryz.prog 5 #[.slice A n c] w (Ret (.bool true) w) := by
  unfold maxLen at hm
  have h : (1048576 : Int) < (n : Int) := by omega
  go_enter Tryz.func5, Tryz.ntmps5
  go_wp2
  go_ret
  exact ⟨rfl, Ext.refl w⟩
set_option maxRecDepth 8000 in
set_option maxHeartbeats 4000000 in
theorem FnSnapRead_c {v : Value} {xs : List Int} (w : World) (h : Bys w v xs) (hm : ML w) (hl : xs.length ≤ 1048576) : Calls Tryz.prog 5 #[v] w (Ret (.bool true) w) := by
  have H := Lib.hid h
  obtain ⟨A0, c0, rfl, -⟩ := h
  have HM := Lib.hid hm; clear hm
  have hn : ¬ (1048576 : Int) < (xs.length : Int) := by omega
  go_enter Tryz.func5, Tryz.ntmps5
  go_wp2_with fail
  refine (DrawSnapRead_c _ H.out).mono ?_
  rintro e w1 ⟨us, ut, un, nm, p, rfl, ⟨s, t, l, hS, hT, hN, ht12, hl7, hlt12⟩, hnm, hp, he1⟩
  obtain ⟨A1, c1, rfl, hSs⟩ := id hS
  obtain ⟨A2, c2, rfl, hTs⟩ := id hT
  obtain ⟨A3, c3, rfl, hNs⟩ := id hN
  have HM1 := Lib.hid (HM.out.ext he1)
  obtain ⟨m, hm⟩ : ∃ n, s.length = n := ⟨_, rfl⟩
  obtain ⟨n, hn⟩ : ∃ n, t.length = n := ⟨_, rfl⟩
  obtain ⟨q, hq⟩ : ∃ n, l.length = n := ⟨_, rfl⟩
  have Hm := Lib.hid hm; have Hn := Lib.hid hn; have Hq := Lib.hid hq
  have hS2 : Hds w.heap.size w1 (.slice A1 m c1) s := by rw [← hm]; exact hS
  have hT2 : Its w.heap.size w1 (.slice A2 n c2) t := by rw [← hn]; exact hT
  have hN2 : Sns w.heap.size w1 (.slice A3 q c3) l := by rw [← hq]; exact hN
  rw [hn] at ht12; rw [hq] at hl7
  have HS := Lib.hid hS2; have HT := Lib.hid hT2; have HN := Lib.hid hN2; have HNs := Lib.hid hNs; have HLT := Lib.hid hlt12; have HP := Lib.hid hp; have HNM := Lib.hid hnm
  clear hS hT hN hT2 hS2 hN2 hTs hSs hNs hlt12 hp hnm
  rw [hm, hn, hq]
  clear hm hn hq
  go_wp2_with fail
  have hbx := Blk.new w1 40 #[.slice A1 m c1, .slice A2 n c2, .slice A3 q c3]
  have e1b : Ext w1 (w1.alloc (.cells #[.slice A1 m c1, .slice A2 n c2, .slice A3 q c3] 40)) := (Ext.refl _).alloc _
  obtain ⟨g1, hg1⟩ : ∃ g, w1.heap.size = g := ⟨_, rfl⟩
  rw [hg1] at hbx
  generalize hb1 : w1.alloc (.cells #[.slice A1 m c1, .slice A2 n c2, .slice A3 q c3] 40) = b1 at *
  have X1_0 := Lib.hid fun W (e : Ext b1 W) => hbx.at_ (i := 0) (u := .slice A1 m c1) rfl W e
  have X1_1 := Lib.hid fun W (e : Ext b1 W) => hbx.at_ (i := 1) (u := .slice A2 n c2) rfl W e
  have X1_2 := Lib.hid fun W (e : Ext b1 W) => hbx.at_ (i := 2) (u := .slice A3 q c3) rfl W e
  clear hbx hb1
  have E1 := he1.trans e1b
  refine (SnapRead_c nm p b1 (HS.out.ext e1b) (HT.out.ext e1b) (HN.out.ext e1b) HP.out (HM1.out.ext e1b)).mono ?_
  rintro e w2 ⟨u2, rfl, ⟨vv, rfl, hI2⟩, he2⟩
  obtain ⟨A5, c5, rfl, -⟩ := id hI2
  have HI2 := Lib.hid hI2
  have E2 := E1.trans he2
  have e12 := e1b.trans he2
  clear hI2
  have q0 := X1_0.out w2 he2; have q1 := X1_1.out w2 he2; have q2 := X1_2.out w2 he2
  have Cr : Hid (∀ W, Ext w1 W → Calls Tryz.prog 27 #[.agg #[.slice A1 m c1, .slice A2 n c2, .slice A3 q c3], .string nm, .string p] W (RetP (OptInts W.heap.size (readSn s t l nm p)) W)) := Lib.hid fun W e => specSnapRead_c nm p W (HS.out.ext e) (HT.out.ext e) (HN.out.ext e)
  obtain ⟨o, ho⟩ : ∃ o, readSn s t l nm p = o := ⟨_, rfl⟩
  rw [ho] at Cr HI2 ⊢
  have HO := Lib.hid ho
  clear ho
  cases o with
  | none =>
    simp only [Option.isSome_none, Option.getD_none] at HI2 ⊢
    go_wp2_with fail
    refine (Cr.out w2 e12).mono ?_
    rintro e w3 ⟨u3, rfl, ⟨v3, rfl, hI3⟩, he3⟩
    simp only [Option.isSome_none, Option.getD_none] at hI3 ⊢
    obtain ⟨A4, c4, rfl, -⟩ := id hI3
    have HI3 := Lib.hid hI3
    have Cs : Hid (∀ W, Ext w3 W → Calls Tryz.prog 28 #[.slice A5 ([] : List Int).length c5, .slice A4 ([] : List Int).length c4] W (Ret (.bool true) W)) := Lib.hid fun W e => by
      have := laws_sameInts_c W (HI2.out.ext (he3.trans e)) (HI3.out.ext e)
      rwa [show eqb ([] : List Int) [] = true from eqb_true.2 rfl] at this
    clear hI3 q0 q1 q2
    go_wp2_with fail
    refine (Cs.out w3 (Ext.refl _)).mono ?_
    rintro e w4 ⟨rfl, he4⟩
    go_wp2_with fail
    refine (Cs.out w4 he4).mono ?_
    rintro e w5 ⟨rfl, he5⟩
    go_wp2
    go_ret
    exact ⟨rfl, ((E2.trans he3).trans he4).trans he5⟩
  | some out =>
    simp only [Option.isSome_some, Option.getD_some] at HI2 ⊢
    obtain ⟨i, y, x, hv, hi, hyn, hmin, hf, hxd, hfit, htok, hSO, hout⟩ := readSn_some HO.out
    have Hout := Lib.hid hout; have Hf := Lib.hid hf; have Hfit := Lib.hid hfit; have Hxd := Lib.hid hxd; have HSO := Lib.hid hSO; have Htok := Lib.hid htok; have Hi := Lib.hid hi; have Hyn := Lib.hid hyn; have Hmin := Lib.hid hmin
    have hiq : i < q := by rw [← Hq.out]; exact lt_of_get hi
    clear hout hf hv hfit hxd hSO htok hi hyn hmin
    go_wp2_with fail
    refine (Cr.out w2 e12).mono ?_
    rintro e w3 ⟨u3, rfl, ⟨v3, rfl, hI3⟩, he3⟩
    simp only [Option.isSome_some, Option.getD_some] at hI3 ⊢
    obtain ⟨A4, c4, rfl, -⟩ := id hI3
    have HI3 := Lib.hid hI3
    have Cs : Hid (∀ W, Ext w3 W → Calls Tryz.prog 28 #[.slice A5 out.length c5, .slice A4 out.length c4] W (Ret (.bool true) W)) := Lib.hid fun W e => by
      have := laws_sameInts_c W (HI2.out.ext (he3.trans e)) (HI3.out.ext e)
      rwa [show eqb out out = true from eqb_true.2 rfl] at this
    have e13 := e12.trans he3
    have XO0 := Lib.hid fun W (e : Ext w3 W) => X1_0.out W ((he2.trans he3).trans e); have XO2 := Lib.hid fun W (e : Ext w3 W) => X1_2.out W ((he2.trans he3).trans e)
    clear hI3 q0 q1 q2 X1_0 X1_1 X1_2
    go_wp2_with fail
    refine (Cs.out w3 (Ext.refl _)).mono ?_
    rintro e w4 ⟨rfl, he4⟩
    go_wp2_with fail
    go_loopw [10] (fun v wr => ∃ k : Nat, k ≤ i ∧ v = .int .i64 k ∧ Ext w4 wr) (fun v _ => q - (RowKit.intOf v).toNat)
    case atStart => exact ⟨0, by omega, rfl, Ext.refl _⟩
    case round =>
      obtain ⟨k, hk, rfl, he⟩ := hrel
      have e3 := he4.trans he
      have x2 := XO2.out wr e3
      have hlt : k < q := by omega
      by_cases hki : k = i
      · subst hki
        obtain ⟨b3, o3, u3, rfl, -, -, -, hxt, g0, g1⟩ := Sns.at_ HNs.out Hi.out
        obtain ⟨A6, c6, rfl, hT6⟩ := id hxt
        have HT6 := Lib.hid hxt
        obtain ⟨n6, hn6⟩ : ∃ n, y.tree.length = n := ⟨_, rfl⟩
        rw [hn6] at HT6 g1
        have p0 := g0 wr (e13.trans e3); have p1 := g1 wr (e13.trans e3)
        have hp : (y.name.toList == nm.toList) = true := by rw [beq_iff_eq, Hyn.out]
        clear g0 g1 hxt hn6 hT6
        go_wp2_with fail
        have CF := TreeFind_c wr (HT6.out.ext (e13.trans e3)) Htok.out p HP.out (HM1.out.ext (e13.trans e3))
        rw [Hf.out] at CF
        refine CF.mono ?_
        rintro e w5 ⟨u5, rfl, he5, hV5⟩
        simp only [Option.isSome_some, Option.getD_some] at hV5 ⊢
        obtain ⟨u6, rfl, -, hI6⟩ := hV5
        obtain ⟨A7, c7, rfl, -⟩ := id hI6
        have HI6 := Lib.hid hI6
        have e35 := e3.trans he5
        have e15 := e13.trans e35
        clear CF hI6 x2 p0 p1
        rw [Hxd.out]
        have y0 := fun o => XO0.out (w5.alloc o) (e35.alloc o)
        go_wp2_with fail
        have hbx := Blk.new w5 47 #[.string x.path, .bool false, .slice A7 x.ids.length c7]
        have e5b : Ext w5 (w5.alloc (.cells #[.string x.path, .bool false, .slice A7 x.ids.length c7] 47)) := (Ext.refl _).alloc _
        obtain ⟨g5, hg5⟩ : ∃ g, w5.heap.size = g := ⟨_, rfl⟩
        rw [hg5] at hbx
        generalize hb5 : w5.alloc (.cells #[.string x.path, .bool false, .slice A7 x.ids.length c7] 47) = b5 at *
        have X5_0 := Lib.hid fun W (e : Ext b5 W) => hbx.at_ (i := 0) (u := .string x.path) rfl W e
        have X5_1 := Lib.hid fun W (e : Ext b5 W) => hbx.at_ (i := 1) (u := .bool false) rfl W e
        have X5_2 := Lib.hid fun W (e : Ext b5 W) => hbx.at_ (i := 2) (u := .slice A7 x.ids.length c7) rfl W e
        clear hbx hb5
        have e15b := e15.trans e5b
        have CL := FileLoad_c b5 (HS.out.ext e15b) (HI6.out.ext e5b) (storeOk_iff.2 HSO.out)
        rw [show loadIf s x.ids = some out by unfold loadIf; rw [if_pos (idsFit_iff.2 Hfit.out), ← Hout.out]] at CL
        refine CL.mono ?_
        rintro e w6 ⟨u7, rfl, ⟨u8, rfl, hI8⟩, he6⟩
        simp only [Option.isSome_some, Option.getD_some] at hI8 ⊢
        obtain ⟨A8, c8, rfl, -⟩ := id hI8
        have HI8 := Lib.hid hI8
        have e36 := (e35.trans e5b).trans he6
        have z1 := X5_1.out w6 he6
        clear hI8 CL
        go_wp2_with fail
        have Ct := laws_sameInts_c w6 HI8.out (HI2.out.ext (he3.trans e36))
        rw [show eqb out out = true from eqb_true.2 rfl] at Ct
        refine Ct.mono ?_
        rintro e w7 ⟨rfl, he7⟩
        go_wp2
        go_ret
        exact ⟨rfl, (E2.trans he3).trans (e36.trans he7)⟩
      · obtain ⟨y2, hy2⟩ := get_of_lt (l := l) (k := k) (by rw [Hq.out]; exact hlt)
        have hne := Hmin.out k y2 (by omega) hy2
        obtain ⟨b3, o3, u3, rfl, -, -, -, -, g0, -⟩ := Sns.at_ HNs.out hy2
        have p0 := g0 wr (e13.trans e3)
        have hp : (y2.name.toList == nm.toList) = false := by
          rw [bytes_ne_iff, decide_eq_false_iff_not]; exact hne
        clear g0 hy2 hne
        go_wp2
        go_roundw
        case rel => exact ⟨k + 1, by omega, by go_num, he⟩
        case measure => simp [RowKit.intOf]; omega
end Go.Sf
