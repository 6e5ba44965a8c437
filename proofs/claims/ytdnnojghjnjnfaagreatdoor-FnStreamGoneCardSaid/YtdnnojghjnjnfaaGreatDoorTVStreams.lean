/- Laws of drawn disks: what is sent between two snapshots. -/
import Derived.Test.YtdnnojghjnjnfaaGreatDoorHD
import Derived.Test.YtdnnojghjnjnfaaGreatDoorHK
import Derived.Test.YtdnnojghjnjnfaaGreatDoorGX
import Derived.Test.YtdnnojghjnjnfaaGreatDoorTVRead
namespace Go.Sf
open Go Go.RowKit Go.Proofs
set_option maxHeartbeats 1000000 in
theorem FnStreamNone_big {A : Option Addr} {n c : Nat} (w : World) (hn : 1048576 < n) (hm : n ≤ maxLen) : Calls Tryz.prog 6 #[.slice A n c] w (Ret (.bool true) w) := by
  unfold maxLen at hm
  have h : (1048576 : Int) < (n : Int) := by omega
  go_enter Tryz.func6, Tryz.ntmps6
  go_wp2
  go_ret
  exact ⟨rfl, Ext.refl w⟩
set_option maxRecDepth 8000 in
set_option maxHeartbeats 4000000 in
theorem FnStreamNone_c {v : Value} {xs : List Int} (w : World) (h : Bys w v xs) (hm : ML w) (hl : xs.length ≤ 1048576) : Calls Tryz.prog 6 #[v] w (Ret (.bool true) w) := by
  have H := Lib.hid h
  obtain ⟨A0, c0, rfl, -⟩ := h
  have HM := Lib.hid hm; clear hm
  have hn : ¬ (1048576 : Int) < (xs.length : Int) := by omega
  go_enter Tryz.func6, Tryz.ntmps6
  go_wp2_with fail
  refine (DrawStreamOf_c _ H.out).mono ?_
  rintro e w1 ⟨us, ut, un, nm, p, rfl, ⟨s, t, l, hS, hT, hN, ht12, hl7, hlt12⟩, hnm, hp, he1⟩
  obtain ⟨A1, c1, rfl, hSs⟩ := id hS
  obtain ⟨A2, c2, rfl, hTs⟩ := id hT
  obtain ⟨A3, c3, rfl, hNs⟩ := id hN
  have HM1 := Lib.hid (HM.out.ext he1)
  obtain ⟨m, hm⟩ : ∃ n, s.length = n := ⟨_, rfl⟩
  obtain ⟨n, hn⟩ : ∃ n, t.length = n := ⟨_, rfl⟩
  obtain ⟨q, hq⟩ : ∃ n, l.length = n := ⟨_, rfl⟩
  have Hm := Lib.hid hm; have Hn := Lib.hid hn; have Hq := Lib.hid hq
  have hS2 : Hds w.heap.size w1 (.slice A1 m c1) s := by rw [← hm]; exact hS
  have hT2 : Its w.heap.size w1 (.slice A2 n c2) t := by rw [← hn]; exact hT
  have hN2 : Sns w.heap.size w1 (.slice A3 q c3) l := by rw [← hq]; exact hN
  rw [hn] at ht12; rw [hq] at hl7
  have HS := Lib.hid hS2; have HT := Lib.hid hT2; have HN := Lib.hid hN2; have HNs := Lib.hid hNs; have HLT := Lib.hid hlt12; have HP := Lib.hid hp; have HNM := Lib.hid hnm
  clear hS hT hN hT2 hS2 hN2 hTs hSs hNs hlt12 hp hnm
  rw [hm, hn, hq]
  clear hm hn hq
  go_wp2_with fail
  have hbx := Blk.new w1 40 #[.slice A1 m c1, .slice A2 n c2, .slice A3 q c3]
  have e1b : Ext w1 (w1.alloc (.cells #[.slice A1 m c1, .slice A2 n c2, .slice A3 q c3] 40)) := (Ext.refl _).alloc _
  obtain ⟨g1, hg1⟩ : ∃ g, w1.heap.size = g := ⟨_, rfl⟩
  rw [hg1] at hbx
  generalize hb1 : w1.alloc (.cells #[.slice A1 m c1, .slice A2 n c2, .slice A3 q c3] 40) = b1 at *
  have X1_0 := Lib.hid fun W (e : Ext b1 W) => hbx.at_ (i := 0) (u := .slice A1 m c1) rfl W e
  have X1_1 := Lib.hid fun W (e : Ext b1 W) => hbx.at_ (i := 1) (u := .slice A2 n c2) rfl W e
  have X1_2 := Lib.hid fun W (e : Ext b1 W) => hbx.at_ (i := 2) (u := .slice A3 q c3) rfl W e
  clear hbx hb1
  have E1 := he1.trans e1b
  refine (StreamOf_c nm p b1 (HS.out.ext e1b) (HT.out.ext e1b) (HN.out.ext e1b) (HM1.out.ext e1b)).mono ?_
  rintro e w2 ⟨u2, rfl, ⟨vv, lu, rfl, hlu, hI0, -⟩, he2⟩
  have hI2 := hI0.plain
  rw [hlu] at hI2
  obtain ⟨A5, c5, rfl, hPs⟩ := id hI2
  have HI2 := Lib.hid hI2; have HPs := Lib.hid hPs
  have E2 := E1.trans he2
  have e12 := e1b.trans he2
  clear hI2 hlu hI0 hPs
  have q0 := X1_0.out w2 he2; have q1 := X1_1.out w2 he2; have q2 := X1_2.out w2 he2
  have Cr : Hid (∀ W, Ext w1 W → Calls Tryz.prog 33 #[.agg #[.slice A1 m c1, .slice A2 n c2, .slice A3 q c3], .string nm, .string p] W (RetP (OptPts W.heap.size (streamOf s t l nm p)) W)) := Lib.hid fun W e => specStreamOf_c nm p W (HS.out.ext e) (HT.out.ext e) (HN.out.ext e)
  obtain ⟨o, ho⟩ : ∃ o, streamOf s t l nm p = o := ⟨_, rfl⟩
  rw [ho] at Cr HI2 HPs ⊢
  have HO := Lib.hid ho
  clear ho
  cases o with
  | none =>
    simp only [Option.isSome_none, Option.getD_none] at HI2 HPs ⊢
    go_wp2_with fail
    refine (Cr.out w2 e12).mono ?_
    rintro e w3 ⟨u3, rfl, ⟨v3, rfl, hI3⟩, he3⟩
    simp only [Option.isSome_none, Option.getD_none] at hI3 ⊢
    obtain ⟨A4, c4, rfl, -⟩ := id hI3
    have HI3 := Lib.hid hI3
    have Cs : Hid (∀ W, Ext w3 W → Calls Tryz.prog 34 #[.slice A5 ([] : List Pt).length c5, .slice A4 ([] : List Pt).length c4] W (Ret (.bool true) W)) := Lib.hid fun W e => by
      have := laws_sameParts_c W (HI2.out.ext (he3.trans e)) (HI3.out.ext e)
      rwa [show eqb ([] : List Pt) [] = true from eqb_true.2 rfl] at this
    clear hI3 q0 q1 q2
    go_wp2_with fail
    refine (Cs.out w3 (Ext.refl _)).mono ?_
    rintro e w4 ⟨rfl, he4⟩
    go_wp2_with fail
    refine (Cs.out w4 he4).mono ?_
    rintro e w5 ⟨rfl, he5⟩
    go_wp2
    go_ret
    exact ⟨rfl, ((E2.trans he3).trans he4).trans he5⟩
  | some out =>
    simp only [Option.isSome_some, Option.getD_some] at HI2 HPs ⊢
    have HSP := Lib.hid (stream_part HO.out)
    obtain ⟨r, hr⟩ : ∃ n, out.length = n := ⟨_, rfl⟩
    have Hr := Lib.hid hr
    have hr24 : r ≤ 24 := by rw [← hr]; exact HSP.out.2.1
    rw [hr] at HI2 ⊢
    have Cs0 : Hid (∀ W v3, Ext w2 W → Pts w2.heap.size W v3 out → Calls Tryz.prog 34 #[.slice A5 r c5, v3] W (Ret (.bool true) W)) := Lib.hid fun W v3 e h3 => by
      have := laws_sameParts_c W (HI2.out.ext e) h3
      rwa [show eqb out out = true from eqb_true.2 rfl] at this
    clear hr
    go_wp2_with fail
    refine (Cr.out w2 e12).mono ?_
    rintro e w3 ⟨u3, rfl, ⟨v3, rfl, hI3⟩, he3⟩
    simp only [Option.isSome_some, Option.getD_some] at hI3 ⊢
    have HI3 := Lib.hid hI3
    obtain ⟨A4, c4, rfl, -⟩ := hI3
    rw [Hr.out] at HI3 ⊢
    have Cs : Hid (∀ W, Ext w3 W → Calls Tryz.prog 34 #[.slice A5 r c5, .slice A4 r c4] W (Ret (.bool true) W)) := Lib.hid fun W e => Cs0.out W _ (he3.trans e) (HI3.out.ext e)
    have e13 := e12.trans he3
    have XO0 := Lib.hid fun W (e : Ext w3 W) => X1_0.out W ((he2.trans he3).trans e); have XO1 := Lib.hid fun W (e : Ext w3 W) => X1_1.out W ((he2.trans he3).trans e); have XO2 := Lib.hid fun W (e : Ext w3 W) => X1_2.out W ((he2.trans he3).trans e)
    clear q0 q1 q2 X1_0 X1_1 X1_2
    go_wp2_with fail
    refine (Cs.out w3 (Ext.refl _)).mono ?_
    rintro e w4 ⟨rfl, he4⟩
    have x0 := XO0.out w4 he4; have x1 := XO1.out w4 he4; have x2 := XO2.out w4 he4
    go_wp2_with fail
    have e14 := e13.trans he4
    have Cn := StreamOf_c p p w4 (HS.out.ext e14) (HT.out.ext e14) (HN.out.ext e14) (HM1.out.ext e14)
    rw [HSP.out.2.2.1] at Cn
    refine Cn.mono ?_
    rintro e w5 ⟨u5, rfl, ⟨v5, lu5, rfl, hlu5, hI5, -⟩, he5⟩
    simp only [Option.isSome_some, Option.getD_some] at hlu5 ⊢
    have hI6 := hI5.plain
    rw [hlu5] at hI6
    obtain ⟨A6, c6, rfl, -⟩ := hI6
    simp only [List.length_nil]
    clear hI5 hlu5 x0 x1 x2
    go_wp2
    go_ret
    exact ⟨rfl, ((E2.trans he3).trans he4).trans he5⟩
set_option maxHeartbeats 1000000 in
theorem FnStreamGone_big {A : Option Addr} {n c : Nat} (w : World) (hn : 1048576 < n) (hm : n ≤ maxLen) : Calls Tryz.prog 7 #[.slice A n c] w (Ret (.bool true) w) := by
  unfold maxLen at hm
  have h : (1048576 : Int) < (n : Int) := by omega
  go_enter Tryz.func7, Tryz.ntmps7
  go_wp2
  go_ret
  exact ⟨rfl, Ext.refl w⟩
set_option maxRecDepth 8000 in
set_option maxHeartbeats 4000000 in
theorem FnStreamGone_c {v : Value} {xs : List Int} (w : World) (h : Bys w v xs) (hm : ML w) (hl : xs.length ≤ 1048576) : Calls Tryz.prog 7 #[v] w (Ret (.bool true) w) := by
  have H := Lib.hid h
  obtain ⟨A0, c0, rfl, -⟩ := h
  have HM := Lib.hid hm; clear hm
  have hn : ¬ (1048576 : Int) < (xs.length : Int) := by omega
  go_enter Tryz.func7, Tryz.ntmps7
  go_wp2_with fail
  refine (DrawStreamOf_c _ H.out).mono ?_
  rintro e w1 ⟨us, ut, un, nm, p, rfl, ⟨s, t, l, hS, hT, hN, ht12, hl7, hlt12⟩, hnm, hp, he1⟩
  obtain ⟨A1, c1, rfl, hSs⟩ := id hS
  obtain ⟨A2, c2, rfl, hTs⟩ := id hT
  obtain ⟨A3, c3, rfl, hNs⟩ := id hN
  have HM1 := Lib.hid (HM.out.ext he1)
  obtain ⟨m, hm⟩ : ∃ n, s.length = n := ⟨_, rfl⟩
  obtain ⟨n, hn⟩ : ∃ n, t.length = n := ⟨_, rfl⟩
  obtain ⟨q, hq⟩ : ∃ n, l.length = n := ⟨_, rfl⟩
  have Hm := Lib.hid hm; have Hn := Lib.hid hn; have Hq := Lib.hid hq
  have hS2 : Hds w.heap.size w1 (.slice A1 m c1) s := by rw [← hm]; exact hS
  have hT2 : Its w.heap.size w1 (.slice A2 n c2) t := by rw [← hn]; exact hT
  have hN2 : Sns w.heap.size w1 (.slice A3 q c3) l := by rw [← hq]; exact hN
  rw [hn] at ht12; rw [hq] at hl7
  have HS := Lib.hid hS2; have HT := Lib.hid hT2; have HN := Lib.hid hN2; have HNs := Lib.hid hNs; have HLT := Lib.hid hlt12; have HP := Lib.hid hp; have HNM := Lib.hid hnm
  clear hS hT hN hT2 hS2 hN2 hTs hSs hNs hlt12 hp hnm
  rw [hm, hn, hq]
  clear hm hn hq
  go_wp2_with fail
  have hbx := Blk.new w1 40 #[.slice A1 m c1, .slice A2 n c2, .slice A3 q c3]
  have e1b : Ext w1 (w1.alloc (.cells #[.slice A1 m c1, .slice A2 n c2, .slice A3 q c3] 40)) := (Ext.refl _).alloc _
  obtain ⟨g1, hg1⟩ : ∃ g, w1.heap.size = g := ⟨_, rfl⟩
  rw [hg1] at hbx
  generalize hb1 : w1.alloc (.cells #[.slice A1 m c1, .slice A2 n c2, .slice A3 q c3] 40) = b1 at *
  have X1_0 := Lib.hid fun W (e : Ext b1 W) => hbx.at_ (i := 0) (u := .slice A1 m c1) rfl W e
  have X1_1 := Lib.hid fun W (e : Ext b1 W) => hbx.at_ (i := 1) (u := .slice A2 n c2) rfl W e
  have X1_2 := Lib.hid fun W (e : Ext b1 W) => hbx.at_ (i := 2) (u := .slice A3 q c3) rfl W e
  clear hbx hb1
  have E1 := he1.trans e1b
  refine (StreamOf_c nm p b1 (HS.out.ext e1b) (HT.out.ext e1b) (HN.out.ext e1b) (HM1.out.ext e1b)).mono ?_
  rintro e w2 ⟨u2, rfl, ⟨vv, lu, rfl, hlu, hI0, -⟩, he2⟩
  have hI2 := hI0.plain
  rw [hlu] at hI2
  obtain ⟨A5, c5, rfl, hPs⟩ := id hI2
  have HI2 := Lib.hid hI2; have HPs := Lib.hid hPs
  have E2 := E1.trans he2
  have e12 := e1b.trans he2
  clear hI2 hlu hI0 hPs
  have q0 := X1_0.out w2 he2; have q1 := X1_1.out w2 he2; have q2 := X1_2.out w2 he2
  have Cr : Hid (∀ W, Ext w1 W → Calls Tryz.prog 33 #[.agg #[.slice A1 m c1, .slice A2 n c2, .slice A3 q c3], .string nm, .string p] W (RetP (OptPts W.heap.size (streamOf s t l nm p)) W)) := Lib.hid fun W e => specStreamOf_c nm p W (HS.out.ext e) (HT.out.ext e) (HN.out.ext e)
  obtain ⟨o, ho⟩ : ∃ o, streamOf s t l nm p = o := ⟨_, rfl⟩
  rw [ho] at Cr HI2 HPs ⊢
  have HO := Lib.hid ho
  clear ho
  cases o with
  | none =>
    simp only [Option.isSome_none, Option.getD_none] at HI2 HPs ⊢
    go_wp2_with fail
    refine (Cr.out w2 e12).mono ?_
    rintro e w3 ⟨u3, rfl, ⟨v3, rfl, hI3⟩, he3⟩
    simp only [Option.isSome_none, Option.getD_none] at hI3 ⊢
    obtain ⟨A4, c4, rfl, -⟩ := id hI3
    have HI3 := Lib.hid hI3
    have Cs : Hid (∀ W, Ext w3 W → Calls Tryz.prog 34 #[.slice A5 ([] : List Pt).length c5, .slice A4 ([] : List Pt).length c4] W (Ret (.bool true) W)) := Lib.hid fun W e => by
      have := laws_sameParts_c W (HI2.out.ext (he3.trans e)) (HI3.out.ext e)
      rwa [show eqb ([] : List Pt) [] = true from eqb_true.2 rfl] at this
    clear hI3 q0 q1 q2
    go_wp2_with fail
    refine (Cs.out w3 (Ext.refl _)).mono ?_
    rintro e w4 ⟨rfl, he4⟩
    go_wp2_with fail
    refine (Cs.out w4 he4).mono ?_
    rintro e w5 ⟨rfl, he5⟩
    go_wp2
    go_ret
    exact ⟨rfl, ((E2.trans he3).trans he4).trans he5⟩
  | some out =>
    simp only [Option.isSome_some, Option.getD_some] at HI2 HPs ⊢
    have HSP := Lib.hid (stream_part HO.out)
    obtain ⟨r, hr⟩ : ∃ n, out.length = n := ⟨_, rfl⟩
    have Hr := Lib.hid hr
    have hr24 : r ≤ 24 := by rw [← hr]; exact HSP.out.2.1
    rw [hr] at HI2 ⊢
    have Cs0 : Hid (∀ W v3, Ext w2 W → Pts w2.heap.size W v3 out → Calls Tryz.prog 34 #[.slice A5 r c5, v3] W (Ret (.bool true) W)) := Lib.hid fun W v3 e h3 => by
      have := laws_sameParts_c W (HI2.out.ext e) h3
      rwa [show eqb out out = true from eqb_true.2 rfl] at this
    clear hr
    go_wp2_with fail
    refine (Cr.out w2 e12).mono ?_
    rintro e w3 ⟨u3, rfl, ⟨v3, rfl, hI3⟩, he3⟩
    simp only [Option.isSome_some, Option.getD_some] at hI3 ⊢
    have HI3 := Lib.hid hI3
    obtain ⟨A4, c4, rfl, -⟩ := hI3
    rw [Hr.out] at HI3 ⊢
    have Cs : Hid (∀ W, Ext w3 W → Calls Tryz.prog 34 #[.slice A5 r c5, .slice A4 r c4] W (Ret (.bool true) W)) := Lib.hid fun W e => Cs0.out W _ (he3.trans e) (HI3.out.ext e)
    have e13 := e12.trans he3
    have XO0 := Lib.hid fun W (e : Ext w3 W) => X1_0.out W ((he2.trans he3).trans e); have XO1 := Lib.hid fun W (e : Ext w3 W) => X1_1.out W ((he2.trans he3).trans e); have XO2 := Lib.hid fun W (e : Ext w3 W) => X1_2.out W ((he2.trans he3).trans e)
    clear q0 q1 q2 X1_0 X1_1 X1_2
    go_wp2_with fail
    refine (Cs.out w3 (Ext.refl _)).mono ?_
    rintro e w4 ⟨rfl, he4⟩
    go_wp2_with fail
    go_loopw [10] (fun v wr => ∃ k : Nat, k ≤ r ∧ v = .int .i64 k ∧ Ext w4 wr) (fun v _ => r - (RowKit.intOf v).toNat)
    case atStart => exact ⟨0, by omega, rfl, Ext.refl _⟩
    case round =>
      obtain ⟨k, hk, rfl, he⟩ := hrel
      have e2r := (he3.trans he4).trans he
      by_cases hlt : k < r
      · obtain ⟨x, hx⟩ := get_of_lt (l := out) (k := k) (by rw [Hr.out]; exact hlt)
        obtain ⟨b, o, u, rfl, -, -, hki, hps, hIb, g0, g1, g2, g3⟩ := Pts.at_ HPs.out hx
        obtain ⟨hfo, hz, -⟩ := HSP.out.2.2.2 x (List.mem_of_getElem? hx) hps
        obtain ⟨Ab, cb, rfl, -⟩ := id hIb
        have HIb := Lib.hid hIb
        have p0 := g0 wr e2r; have p2 := g2 wr e2r; have p3 := g3 wr e2r
        have Cf := implFileValid_c wr (HIb.out.ext e2r) hfo
        have Cf := Lib.hid Cf
        clear hIb hx g0 g1 g2 g3 hfo hps hki
        obtain ⟨xk, xp, xd, xb⟩ := x
        simp only at *
        have fin : ∀ W, Ext wr W → Ext w4 W := fun W e => he.trans e
        by_cases hg : xk = 2 ∨ xd = true
        · have hb0 := hz hg
          subst hb0
          simp only [List.length_nil] at *
          by_cases h2 : xk = 2
          · subst h2
            go_wp2_with fail
            refine Cf.out.mono ?_
            rintro e w5 ⟨rfl, he5⟩
            go_wp2
            go_roundw
            case rel => exact ⟨k + 1, by omega, by go_num, fin _ he5⟩
            case measure => simp [RowKit.intOf]; omega
          · have h2' : (xk == 2) = false := by rw [beq_eq_false_iff_ne]; exact h2
            obtain rfl : xd = true := hg.resolve_left h2
            go_wp2_with fail
            refine Cf.out.mono ?_
            rintro e w5 ⟨rfl, he5⟩
            go_wp2
            go_roundw
            case rel => exact ⟨k + 1, by omega, by go_num, fin _ he5⟩
            case measure => simp [RowKit.intOf]; omega
        · have h2' : (xk == 2) = false := by rw [beq_eq_false_iff_ne]; exact fun h => hg (.inl h)
          obtain rfl : xd = false := by cases xd with
            | false => rfl
            | true => exact absurd (.inr rfl) hg
          clear hz hg
          go_wp2_with fail
          refine Cf.out.mono ?_
          rintro e w5 ⟨rfl, he5⟩
          go_wp2
          go_roundw
          case rel => exact ⟨k + 1, by omega, by go_num, fin _ he5⟩
          case measure => simp [RowKit.intOf]; omega
      · go_wp2
        go_ret
        exact ⟨rfl, ((E2.trans he3).trans he4).trans he⟩
set_option maxHeartbeats 1000000 in
theorem FnStreamRead_big {A : Option Addr} {n c : Nat} (w : World) (hn : 1048576 < n) (hm : n ≤ maxLen) : Calls Tryz.prog 8 #[.slice A n c] w (Ret (.bool true) w) := by
  unfold maxLen at hm
  have h : (1048576 : Int) < (n : Int) := by omega
  go_enter Tryz.func8, Tryz.ntmps8
  go_wp2
  go_ret
  exact ⟨rfl, Ext.refl w⟩
set_option maxRecDepth 8000 in
set_option maxHeartbeats 4000000 in
theorem FnStreamRead_c {v : Value} {xs : List Int} (w : World) (h : Bys w v xs) (hm : ML w) (hl : xs.length ≤ 1048576) : Calls Tryz.prog 8 #[v] w (Ret (.bool true) w) := by
  have H := Lib.hid h
  obtain ⟨A0, c0, rfl, -⟩ := h
  have HM := Lib.hid hm; clear hm
  have hn : ¬ (1048576 : Int) < (xs.length : Int) := by omega
  go_enter Tryz.func8, Tryz.ntmps8
  go_wp2_with fail
  refine (DrawStreamOf_c _ H.out).mono ?_
  rintro e w1 ⟨us, ut, un, nm, p, rfl, ⟨s, t, l, hS, hT, hN, ht12, hl7, hlt12⟩, hnm, hp, he1⟩
  obtain ⟨A1, c1, rfl, hSs⟩ := id hS
  obtain ⟨A2, c2, rfl, hTs⟩ := id hT
  obtain ⟨A3, c3, rfl, hNs⟩ := id hN
  have HM1 := Lib.hid (HM.out.ext he1)
  obtain ⟨m, hm⟩ : ∃ n, s.length = n := ⟨_, rfl⟩
  obtain ⟨n, hn⟩ : ∃ n, t.length = n := ⟨_, rfl⟩
  obtain ⟨q, hq⟩ : ∃ n, l.length = n := ⟨_, rfl⟩
  have Hm := Lib.hid hm; have Hn := Lib.hid hn; have Hq := Lib.hid hq
  have hS2 : Hds w.heap.size w1 (.slice A1 m c1) s := by rw [← hm]; exact hS
  have hT2 : Its w.heap.size w1 (.slice A2 n c2) t := by rw [← hn]; exact hT
  have hN2 : Sns w.heap.size w1 (.slice A3 q c3) l := by rw [← hq]; exact hN
  rw [hn] at ht12; rw [hq] at hl7
  have HS := Lib.hid hS2; have HT := Lib.hid hT2; have HN := Lib.hid hN2; have HNs := Lib.hid hNs; have HLT := Lib.hid hlt12; have HP := Lib.hid hp; have HNM := Lib.hid hnm
  clear hS hT hN hT2 hS2 hN2 hTs hSs hNs hlt12 hp hnm
  rw [hm, hn, hq]
  clear hm hn hq
  go_wp2_with fail
  have hbx := Blk.new w1 40 #[.slice A1 m c1, .slice A2 n c2, .slice A3 q c3]
  have e1b : Ext w1 (w1.alloc (.cells #[.slice A1 m c1, .slice A2 n c2, .slice A3 q c3] 40)) := (Ext.refl _).alloc _
  obtain ⟨g1, hg1⟩ : ∃ g, w1.heap.size = g := ⟨_, rfl⟩
  rw [hg1] at hbx
  generalize hb1 : w1.alloc (.cells #[.slice A1 m c1, .slice A2 n c2, .slice A3 q c3] 40) = b1 at *
  have X1_0 := Lib.hid fun W (e : Ext b1 W) => hbx.at_ (i := 0) (u := .slice A1 m c1) rfl W e
  have X1_1 := Lib.hid fun W (e : Ext b1 W) => hbx.at_ (i := 1) (u := .slice A2 n c2) rfl W e
  have X1_2 := Lib.hid fun W (e : Ext b1 W) => hbx.at_ (i := 2) (u := .slice A3 q c3) rfl W e
  clear hbx hb1
  have E1 := he1.trans e1b
  refine (StreamOf_c nm p b1 (HS.out.ext e1b) (HT.out.ext e1b) (HN.out.ext e1b) (HM1.out.ext e1b)).mono ?_
  rintro e w2 ⟨u2, rfl, ⟨vv, lu, rfl, hlu, hI0, -⟩, he2⟩
  have hI2 := hI0.plain
  rw [hlu] at hI2
  obtain ⟨A5, c5, rfl, hPs⟩ := id hI2
  have HI2 := Lib.hid hI2; have HPs := Lib.hid hPs
  have E2 := E1.trans he2
  have e12 := e1b.trans he2
  clear hI2 hlu hI0 hPs
  have q0 := X1_0.out w2 he2; have q1 := X1_1.out w2 he2; have q2 := X1_2.out w2 he2
  have Cr : Hid (∀ W, Ext w1 W → Calls Tryz.prog 33 #[.agg #[.slice A1 m c1, .slice A2 n c2, .slice A3 q c3], .string nm, .string p] W (RetP (OptPts W.heap.size (streamOf s t l nm p)) W)) := Lib.hid fun W e => specStreamOf_c nm p W (HS.out.ext e) (HT.out.ext e) (HN.out.ext e)
  obtain ⟨o, ho⟩ : ∃ o, streamOf s t l nm p = o := ⟨_, rfl⟩
  rw [ho] at Cr HI2 HPs ⊢
  have HO := Lib.hid ho
  clear ho
  cases o with
  | none =>
    simp only [Option.isSome_none, Option.getD_none] at HI2 HPs ⊢
    go_wp2_with fail
    refine (Cr.out w2 e12).mono ?_
    rintro e w3 ⟨u3, rfl, ⟨v3, rfl, hI3⟩, he3⟩
    simp only [Option.isSome_none, Option.getD_none] at hI3 ⊢
    obtain ⟨A4, c4, rfl, -⟩ := id hI3
    have HI3 := Lib.hid hI3
    have Cs : Hid (∀ W, Ext w3 W → Calls Tryz.prog 34 #[.slice A5 ([] : List Pt).length c5, .slice A4 ([] : List Pt).length c4] W (Ret (.bool true) W)) := Lib.hid fun W e => by
      have := laws_sameParts_c W (HI2.out.ext (he3.trans e)) (HI3.out.ext e)
      rwa [show eqb ([] : List Pt) [] = true from eqb_true.2 rfl] at this
    clear hI3 q0 q1 q2
    go_wp2_with fail
    refine (Cs.out w3 (Ext.refl _)).mono ?_
    rintro e w4 ⟨rfl, he4⟩
    go_wp2_with fail
    refine (Cs.out w4 he4).mono ?_
    rintro e w5 ⟨rfl, he5⟩
    go_wp2
    go_ret
    exact ⟨rfl, ((E2.trans he3).trans he4).trans he5⟩
  | some out =>
    simp only [Option.isSome_some, Option.getD_some] at HI2 HPs ⊢
    have HSP := Lib.hid (stream_part HO.out)
    obtain ⟨r, hr⟩ : ∃ n, out.length = n := ⟨_, rfl⟩
    have Hr := Lib.hid hr
    have hr24 : r ≤ 24 := by rw [← hr]; exact HSP.out.2.1
    rw [hr] at HI2 ⊢
    have Cs0 : Hid (∀ W v3, Ext w2 W → Pts w2.heap.size W v3 out → Calls Tryz.prog 34 #[.slice A5 r c5, v3] W (Ret (.bool true) W)) := Lib.hid fun W v3 e h3 => by
      have := laws_sameParts_c W (HI2.out.ext e) h3
      rwa [show eqb out out = true from eqb_true.2 rfl] at this
    clear hr
    go_wp2_with fail
    refine (Cr.out w2 e12).mono ?_
    rintro e w3 ⟨u3, rfl, ⟨v3, rfl, hI3⟩, he3⟩
    simp only [Option.isSome_some, Option.getD_some] at hI3 ⊢
    have HI3 := Lib.hid hI3
    obtain ⟨A4, c4, rfl, -⟩ := hI3
    rw [Hr.out] at HI3 ⊢
    have Cs : Hid (∀ W, Ext w3 W → Calls Tryz.prog 34 #[.slice A5 r c5, .slice A4 r c4] W (Ret (.bool true) W)) := Lib.hid fun W e => Cs0.out W _ (he3.trans e) (HI3.out.ext e)
    have e13 := e12.trans he3
    have XO0 := Lib.hid fun W (e : Ext w3 W) => X1_0.out W ((he2.trans he3).trans e); have XO1 := Lib.hid fun W (e : Ext w3 W) => X1_1.out W ((he2.trans he3).trans e); have XO2 := Lib.hid fun W (e : Ext w3 W) => X1_2.out W ((he2.trans he3).trans e)
    clear q0 q1 q2 X1_0 X1_1 X1_2
    go_wp2_with fail
    refine (Cs.out w3 (Ext.refl _)).mono ?_
    rintro e w4 ⟨rfl, he4⟩
    go_wp2_with fail
    go_loopw [10] (fun v wr => ∃ k : Nat, k ≤ r ∧ v = .int .i64 k ∧ Ext w4 wr) (fun v _ => r - (RowKit.intOf v).toNat)
    case atStart => exact ⟨0, by omega, rfl, Ext.refl _⟩
    case round =>
      obtain ⟨k, hk, rfl, he⟩ := hrel
      have e2r := (he3.trans he4).trans he
      have e3r := he4.trans he
      by_cases hlt : k < r
      · obtain ⟨x, hx⟩ := get_of_lt (l := out) (k := k) (by rw [Hr.out]; exact hlt)
        obtain ⟨b, o, u, rfl, -, -, hki, hps, hIb, g0, g1, g2, g3⟩ := Pts.at_ HPs.out hx
        obtain ⟨-, -, hrd⟩ := HSP.out.2.2.2 x (List.mem_of_getElem? hx) hps
        obtain ⟨Ab, cb, rfl, -⟩ := id hIb
        have HIb := Lib.hid hIb; have Hps := Lib.hid hps; have Hrd := Lib.hid hrd
        have p0 := g0 wr e2r; have p1 := g1 wr e2r; have p2 := g2 wr e2r
        have G3 := Lib.hid g3; have G1 := Lib.hid g1
        have x0 := XO0.out wr e3r; have x1 := XO1.out wr e3r; have x2 := XO2.out wr e3r
        clear hIb hx g0 g1 g2 g3 hps hki hrd
        obtain ⟨xk, xp, xd, xb⟩ := x
        simp only at *
        have fin : ∀ W, Ext wr W → Ext w4 W := fun W e => he.trans e
        by_cases h2 : xk = 2
        · subst h2
          go_wp2
          go_roundw
          case rel => exact ⟨k + 1, by omega, by go_num, fin _ (Ext.refl _)⟩
          case measure => simp [RowKit.intOf]; omega
        · have h2' : (xk == 2) = false := by rw [beq_eq_false_iff_ne]; exact h2
          cases xd with
          | true =>
            go_wp2
            go_roundw
            case rel => exact ⟨k + 1, by omega, by go_num, fin _ (Ext.refl _)⟩
            case measure => simp [RowKit.intOf]; omega
          | false =>
            have e1r := e13.trans e3r
            have y0 := fun W (e : Ext wr W) => XO0.out W (e3r.trans e); have y1 := fun W (e : Ext wr W) => XO1.out W (e3r.trans e); have y2 := fun W (e : Ext wr W) => XO2.out W (e3r.trans e)
            have z1 := fun W (e : Ext wr W) => G1.out W (e2r.trans e)
            have e1d : Ext w1 wr.drew := e1r.drew
            have Cr2 := SnapRead_c p xp wr.drew (HS.out.ext e1d) (HT.out.ext e1d) (HN.out.ext e1d) Hps.out (HM1.out.ext e1d)
            rw [Hrd.out h2 rfl] at Cr2
            have Cr2 := Lib.hid Cr2
            clear x0 x1 x2 p1
            go_wp2_with fail
            refine wp_region_hold (fun W => Ext wr W) 12 [(0, true), (1, true), (2, true), (3, true), (4, true), (5, true), (6, true), (7, false), (8, true), (9, true), (10, true), (11, true)] (by kernel_rfl) (by kernel_rfl) ?_ ?_
            · show Ext _ _; (repeat' (first | exact Ext.refl _ | assumption | refine Ext.alloc ?_ _ | refine Ext.drew ?_ | refine Ext.drewN ?_ _ | refine Ext.trans ?_ (by assumption)))
            (repeat (first | (apply hw_read (by rfl) (by rfl); (· (intro W hW; (try dsimp only at hW); go_simp; (first | done | rfl | (rw [if_pos] <;> first | omega | rfl)))); (try simp only [Act.put, List.setIfInBounds_toArray, List.set_cons_zero, List.set_cons_succ])) | (refine hw_skip (by rfl) (by rfl) ?_; (try simp only [Act.put, List.setIfInBounds_toArray, List.set_cons_zero, List.set_cons_succ]))))
            refine hw_step (by rfl) ?_
            go_wp2_with (go_at_call 26; refine Cr2.out.mono ?_; rintro e w5 ⟨u5, rfl, ⟨v5, rfl, hI5⟩, he5⟩)
            have e5 : Ext wr w5 := (Ext.refl wr).drew.trans he5
            refine ⟨e5, ?_⟩
            simp only [Option.getD_some] at hI5 ⊢
            obtain ⟨A7, c7, rfl, -⟩ := id hI5
            have HI5 := Lib.hid hI5
            clear hI5
            (try (repeat (first | (apply hw_read (by rfl) (by rfl); (· (intro W hW; (try dsimp only at hW); go_simp; (first | done | rfl | (rw [if_pos] <;> first | omega | rfl)))); (try simp only [Act.put, List.setIfInBounds_toArray, List.set_cons_zero, List.set_cons_succ])) | (refine hw_skip (by rfl) (by rfl) ?_; (try simp only [Act.put, List.setIfInBounds_toArray, List.set_cons_zero, List.set_cons_succ])))))
            (refine hw_nil ?_; (try simp only [List.drop_succ_cons, List.drop_zero]))
            have p3 := G3.out w5 (e2r.trans e5)
            clear y0 y1 y2 z1 p0 p2
            go_wp2
            refine NoPanic.normal ?_
            (try dsimp only [Exit.then])
            go_wp2_with fail
            have Ct := laws_sameInts_c w5 HI5.out (HIb.out.ext (e2r.trans e5))
            rw [show eqb xb xb = true from eqb_true.2 rfl] at Ct
            refine Ct.mono ?_
            rintro e w6 ⟨rfl, he6⟩
            have he5 := e5
            go_wp2
            go_roundw
            case rel => exact ⟨k + 1, by omega, by go_num, fin _ (he5.trans he6)⟩
            case measure => simp [RowKit.intOf]; omega
      · go_wp2
        go_ret
        exact ⟨rfl, ((E2.trans he3).trans he4).trans he⟩
end Go.Sf
