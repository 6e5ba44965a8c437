/- Laws of drawn volumes: files are written. -/
import Derived.Test.YtoljibhdakacjaaGreatDoorT171
import Derived.Test.YtoljibhdakacjaaGreatDoorT175
import Derived.Test.YtoljibhdakacjaaGreatDoorGY
import Derived.Test.YtoljibhdakacjaaGreatDoorTVDrop
import Derived.Test.YtoljibhdakacjaaGreatDoorGS
namespace Go.Sf
open Go Go.RowKit Go.Proofs
set_option maxHeartbeats 1000000 in
theorem FnVolumeWriteTwice_big {A : Option Addr} {n c : Nat} (w : World) (hn : 1048576 < n) (hm : n ≤ maxLen) : Calls Tryz.prog 10 #[.slice A n c] w (Ret (.bool true) w) := by
  unfold maxLen at hm
  have h : (1048576 : Int) < (n : Int) := by omega
  go_enter Tryz.func10, Tryz.ntmps10
  go_wp2
  go_ret
  exact ⟨rfl, Ext.refl w⟩
set_option maxRecDepth 8000 in
set_option maxHeartbeats 4000000 in
theorem FnVolumeWriteTwice_c {v : Value} {xs : List Int} (w : World) (h : Bys w v xs) (hm : ML w) (hl : xs.length ≤ 1048576) : Calls Tryz.prog 10 #[v] w (Ret (.bool true) w) := by
  have H := Lib.hid h
  obtain ⟨A0, c0, rfl, -⟩ := h
  have HM := Lib.hid hm; clear hm
  have hn : ¬ (1048576 : Int) < (xs.length : Int) := by omega
  go_enter Tryz.func10, Tryz.ntmps10
  go_wp2_with fail
  refine (DrawVolumeWrite_c _ H.out).mono ?_
  rintro e w1 ⟨us, ut, s, t, p, vb, bs, rfl, hS, hT, hs16, ht12, hp, hB, hbs, he1⟩
  obtain ⟨A1, c1, rfl, -⟩ := id hS
  obtain ⟨A2, c2, rfl, hTs⟩ := id hT
  obtain ⟨Ab, cb, rfl, -⟩ := id hB
  obtain ⟨nb, hnb⟩ : ∃ n, bs.length = n := ⟨_, rfl⟩
  rw [hnb] at hB hbs
  obtain ⟨n, hn9⟩ : ∃ n, t.length = n := ⟨_, rfl⟩
  rw [hn9] at hT ht12
  have Hn := Lib.hid hn9; have HTs := Lib.hid hTs
  have HS := Lib.hid hS; have HT := Lib.hid hT; have HP := Lib.hid hp; have HB := Lib.hid hB
  have HM1 := Lib.hid (HM.out.ext he1)
  have Hnb := Lib.hid hnb
  rw [hnb, hn9]
  clear hS hT hp hB hnb hTs hn9
  go_wp2_with fail
  have hbx := Blk.new w1 61 #[.slice A1 s.length c1, .slice A2 n c2]
  have e1b : Ext w1 (w1.alloc (.cells #[.slice A1 s.length c1, .slice A2 n c2] 61)) := (Ext.refl _).alloc _
  obtain ⟨g1, hg1⟩ : ∃ g, w1.heap.size = g := ⟨_, rfl⟩
  rw [hg1] at hbx
  generalize hb1 : w1.alloc (.cells #[.slice A1 s.length c1, .slice A2 n c2] 61) = b1 at *
  have X1_0 := Lib.hid fun W (e : Ext b1 W) => hbx.at_ (i := 0) (u := .slice A1 s.length c1) rfl W e
  have X1_1 := Lib.hid fun W (e : Ext b1 W) => hbx.at_ (i := 1) (u := .slice A2 n c2) rfl W e
  clear hbx hb1
  have E1 := he1.trans e1b
  have CVW := VolumeWrite_c b1 (HS.out.ext e1b) (HT.out.ext e1b) HP.out (HB.out.ext e1b) (HM1.out.ext e1b)
  (try rw [Hnb.out] at CVW)
  refine CVW.mono ?_
  rintro e w2 ⟨u2, rfl, ⟨vv, rfl, hU⟩, he2⟩
  obtain ⟨u1, u2, rfl, hS2, hT2⟩ := hU.plain
  obtain ⟨A3, c3, rfl, -⟩ := id hS2
  obtain ⟨A4, c4, rfl, -⟩ := id hT2
  have HS2 := Lib.hid hS2; have HT2 := Lib.hid hT2
  have E2 := E1.trans he2
  have e12 := e1b.trans he2
  clear hU hS2 hT2 CVW
  have hsm := Lib.hid (show ((volWrite s t p bs).elim [] (·.1)).length ≤ 16 ∧ ((volWrite s t p bs).elim [] (·.2)).length ≤ 12 from small_write s t p bs)
  have Cs : Hid (∀ W, Ext w1 W → Calls Tryz.prog 34 #[.agg #[.slice A1 s.length c1, .slice A2 n c2], .string p, .slice Ab nb cb] W (RetP (OptVol W.heap.size (volWrite s t p bs)) W)) := Lib.hid fun W e => by
    have := specVolumeWrite_c W (HS.out.ext e) (HT.out.ext e) (HB.out.ext e) HP.out
    exact this
  obtain ⟨o, ho⟩ : ∃ o, volWrite s t p bs = o := ⟨_, rfl⟩
  rw [ho] at Cs HS2 HT2 hsm ⊢
  have HO := Lib.hid ho
  clear ho
  obtain ⟨s8, hs8⟩ : ∃ l, o.elim [] (·.1) = l := ⟨_, rfl⟩
  obtain ⟨t8, ht8⟩ : ∃ l, o.elim [] (·.2) = l := ⟨_, rfl⟩
  obtain ⟨ob, hob⟩ : ∃ b, o.isSome = b := ⟨_, rfl⟩
  rw [hs8] at HS2 hsm ⊢
  rw [ht8] at HT2 hsm ⊢
  rw [hob]
  have Cs2 : Hid (∀ W, Ext w1 W → Calls Tryz.prog 34 #[.agg #[.slice A1 s.length c1, .slice A2 n c2], .string p, .slice Ab nb cb] W (RetP (fun r W' => ∃ us ut, r = .tuple #[.agg #[us, ut], .bool ob] ∧ OwnS W.heap.size 110 3 (EHd W.heap.size) W' us s8 ∧ Its W.heap.size W' ut t8) W)) := Lib.hid fun W e => by
    rw [← hs8, ← ht8, ← hob]; exact Cs.out W e
  have Hon : Hid (ob = true → volWrite s t p bs = some (s8, t8)) := Lib.hid fun h => by
    rw [HO.out]
    cases o with
    | none => rw [← hob] at h; cases h
    | some x => rw [← hs8, ← ht8]; rfl
  clear Cs hs8 ht8 hob
  have q0 := fun o => X1_0.out (w2.alloc o) (he2.alloc o); have q1 := fun o => X1_1.out (w2.alloc o) (he2.alloc o)
  go_wp2_with fail
  clear q0 q1
  have hbx := Blk.new w2 61 #[.slice A3 s8.length c3, .slice A4 t8.length c4]
  have e2b : Ext w2 (w2.alloc (.cells #[.slice A3 s8.length c3, .slice A4 t8.length c4] 61)) := (Ext.refl _).alloc _
  obtain ⟨g2, hg2⟩ : ∃ g, w2.heap.size = g := ⟨_, rfl⟩
  rw [hg2] at hbx
  generalize hb2 : w2.alloc (.cells #[.slice A3 s8.length c3, .slice A4 t8.length c4] 61) = b2 at *
  have X2_0 := Lib.hid fun W (e : Ext b2 W) => hbx.at_ (i := 0) (u := .slice A3 s8.length c3) rfl W e
  have X2_1 := Lib.hid fun W (e : Ext b2 W) => hbx.at_ (i := 1) (u := .slice A4 t8.length c4) rfl W e
  clear hbx hb2
  have E2b := E2.trans e2b
  refine (Cs2.out _ (e12.trans e2b)).mono ?_
  rintro e w3 ⟨u3, rfl, ⟨us3, ut3, rfl, hO3, hT3⟩, he3⟩
  obtain ⟨A5, c5, rfl⟩ := hO3.form
  obtain ⟨A6, c6, rfl, -⟩ := id hT3
  have HS3 := Lib.hid (hO3.isHds (by have := hsm.out.1; unfold lim; omega)); have HT3 := Lib.hid hT3
  have E3 := E2b.trans he3
  have e23 := e2b.trans he3
  have e13 := e12.trans e23
  have Cv : Hid (∀ W, Ext w3 W → Calls Tryz.prog 35 #[.agg #[.slice A3 s8.length c3, .slice A4 t8.length c4], .agg #[.slice A5 s8.length c5, .slice A6 t8.length c6]] W (Ret (.bool true) W)) := Lib.hid fun W e => sameVolume_c W (HS2.out.ext (e23.trans e)) (HT2.out.ext (e23.trans e)) (HS3.out.ext e) (HT3.out.ext e)
  have eW := (Ext.refl w3).alloc (.cells #[.slice A5 s8.length c5, .slice A6 t8.length c6] 61)
  have y0 := X2_0.out _ (he3.trans eW); have y1 := X2_1.out _ (he3.trans eW)
  clear hO3 hT3 Cs2
  cases ob with
  | false =>
    have z0 := fun W (e : Ext _ W) => X2_0.out W ((he3.trans eW).trans e); have z1 := fun W (e : Ext _ W) => X2_1.out W ((he3.trans eW).trans e)
    have hbw := Blk.new w3 61 #[.slice A5 s8.length c5, .slice A6 t8.length c6]
    have k0 := fun W (e : Ext _ W) => hbw.at_ (i := 0) (u := .slice A5 s8.length c5) rfl W e; have k1 := fun W (e : Ext _ W) => hbw.at_ (i := 1) (u := .slice A6 t8.length c6) rfl W e
    clear hbw
    go_wp2_with fail
    refine (Cv.out _ eW).mono ?_
    rintro e w4 ⟨rfl, he4⟩
    have r0 := z0 _ he4; have r1 := z1 _ he4; have r2 := k0 _ he4; have r3 := k1 _ he4
    go_wp2_with fail
    refine (Cv.out _ (eW.trans he4)).mono ?_
    rintro e w5 ⟨rfl, he5⟩
    go_wp2
    go_ret
    exact ⟨rfl, ((E3.trans eW).trans he4).trans he5⟩
  | true =>
    have HW := Lib.hid (Hon.out rfl)
    go_wp2_with fail
    refine (Cv.out _ eW).mono ?_
    rintro e w4 ⟨rfl, he4⟩
    have E4 := (E3.trans eW).trans he4
    have e34 := eW.trans he4
    have e14 := e13.trans e34
    have HM4 : Hid (ML w4) := Lib.hid (HM.out.ext E4)
    have HS4 := Lib.hid ((HS2.out.ext e23).ext e34); have HT4 := Lib.hid ((HT2.out.ext e23).ext e34)
    have XO0 := Lib.hid fun W (e : Ext w4 W) => X2_0.out W ((he3.trans e34).trans e); have XO1 := Lib.hid fun W (e : Ext w4 W) => X2_1.out W ((he3.trans e34).trans e)
    have XV0 := Lib.hid fun W (e : Ext w4 W) => X1_0.out W (((he2.trans e23).trans e34).trans e); have XV1 := Lib.hid fun W (e : Ext w4 W) => X1_1.out W (((he2.trans e23).trans e34).trans e)
    clear y0 y1 Cv X1_0 X1_1 X2_0 X2_1
    have y0 := XO0.out _ (Ext.refl _); have y1 := XO1.out _ (Ext.refl _)
    have CVW := VolumeWrite_c w4 HS4.out HT4.out HP.out (HB.out.ext e14) HM4.out
    (try rw [Hnb.out] at CVW)
    go_wp2_with fail
    refine CVW.mono ?_
    rintro e w5 ⟨u5, rfl, ⟨v5, rfl, hU⟩, he5⟩
    obtain ⟨u51, u52, rfl, hS5, hT5⟩ := hU.plain
    obtain ⟨A7, c7, rfl, -⟩ := id hS5
    obtain ⟨A8, c8, rfl, -⟩ := id hT5
    clear hU CVW y0 y1
    have y0 := XO0.out _ he5; have y1 := XO1.out _ he5
    have HS5 := Lib.hid hS5; have HT5 := Lib.hid hT5
    clear hS5 hT5
    have Htw : Hid (∀ s4 t4, volWrite s8 t8 p bs = some (s4, t4) → s4 = s8 ∧ t4 = t8) := Lib.hid fun s4 t4 h => write_twice HW.out h
    cases h2 : volWrite s8 t8 p bs with
    | none =>
      have Hh2 := Lib.hid h2
      rw [h2] at HS5 HT5
      simp only [Option.isSome_none, Option.elim_none] at HS5 HT5 ⊢
      clear h2
      go_wp2
      go_ret
      exact ⟨rfl, by first | exact E4.trans he5 | exact (E4.trans he5).alloc _⟩
    | some x =>
      obtain ⟨s4, t4⟩ := x
      obtain ⟨rfl, rfl⟩ := Htw.out s4 t4 h2
      rw [h2] at HS5 HT5
      simp only [Option.isSome_some, Option.elim_some] at HS5 HT5 ⊢
      clear h2
      have eX := (Ext.refl w5).alloc (.cells #[.slice A7 s4.length c7, .slice A8 t4.length c8] 61)
      have y2 := XO0.out _ (he5.trans eX); have y3 := XO1.out _ (he5.trans eX)
      go_wp2_with fail
      refine (sameVolume_c _ (HS5.out.ext eX) (HT5.out.ext eX) (HS4.out.ext (he5.trans eX)) (HT4.out.ext (he5.trans eX))).mono ?_
      rintro e w6 ⟨rfl, he6⟩
      go_wp2
      go_ret
      exact ⟨rfl, ((E4.trans he5).trans eX).trans he6⟩
set_option maxHeartbeats 1000000 in
theorem FnVolumeWriteOthers_big {A : Option Addr} {n c : Nat} (w : World) (hn : 1048576 < n) (hm : n ≤ maxLen) : Calls Tryz.prog 9 #[.slice A n c] w (Ret (.bool true) w) := by
  unfold maxLen at hm
  have h : (1048576 : Int) < (n : Int) := by omega
  go_enter Tryz.func9, Tryz.ntmps9
  go_wp2
  go_ret
  exact ⟨rfl, Ext.refl w⟩
set_option maxRecDepth 8000 in
set_option maxHeartbeats 4000000 in
theorem FnVolumeWriteOthers_c {v : Value} {xs : List Int} (w : World) (h : Bys w v xs) (hm : ML w) (hl : xs.length ≤ 1048576) : Calls Tryz.prog 9 #[v] w (Ret (.bool true) w) := by
  have H := Lib.hid h
  obtain ⟨A0, c0, rfl, -⟩ := h
  have HM := Lib.hid hm; clear hm
  have hn : ¬ (1048576 : Int) < (xs.length : Int) := by omega
  go_enter Tryz.func9, Tryz.ntmps9
  go_wp2_with fail
  refine (DrawVolumeWrite_c _ H.out).mono ?_
  rintro e w1 ⟨us, ut, s, t, p, vb, bs, rfl, hS, hT, hs16, ht12, hp, hB, hbs, he1⟩
  obtain ⟨A1, c1, rfl, -⟩ := id hS
  obtain ⟨A2, c2, rfl, hTs⟩ := id hT
  obtain ⟨Ab, cb, rfl, -⟩ := id hB
  obtain ⟨nb, hnb⟩ : ∃ n, bs.length = n := ⟨_, rfl⟩
  rw [hnb] at hB hbs
  obtain ⟨n, hn9⟩ : ∃ n, t.length = n := ⟨_, rfl⟩
  rw [hn9] at hT ht12
  have Hn := Lib.hid hn9; have HTs := Lib.hid hTs
  have HS := Lib.hid hS; have HT := Lib.hid hT; have HP := Lib.hid hp; have HB := Lib.hid hB
  have HM1 := Lib.hid (HM.out.ext he1)
  have Hnb := Lib.hid hnb
  rw [hnb, hn9]
  clear hS hT hp hB hnb hTs hn9
  go_wp2_with fail
  have hbx := Blk.new w1 61 #[.slice A1 s.length c1, .slice A2 n c2]
  have e1b : Ext w1 (w1.alloc (.cells #[.slice A1 s.length c1, .slice A2 n c2] 61)) := (Ext.refl _).alloc _
  obtain ⟨g1, hg1⟩ : ∃ g, w1.heap.size = g := ⟨_, rfl⟩
  rw [hg1] at hbx
  generalize hb1 : w1.alloc (.cells #[.slice A1 s.length c1, .slice A2 n c2] 61) = b1 at *
  have X1_0 := Lib.hid fun W (e : Ext b1 W) => hbx.at_ (i := 0) (u := .slice A1 s.length c1) rfl W e
  have X1_1 := Lib.hid fun W (e : Ext b1 W) => hbx.at_ (i := 1) (u := .slice A2 n c2) rfl W e
  clear hbx hb1
  have E1 := he1.trans e1b
  have CVW := VolumeWrite_c b1 (HS.out.ext e1b) (HT.out.ext e1b) HP.out (HB.out.ext e1b) (HM1.out.ext e1b)
  (try rw [Hnb.out] at CVW)
  refine CVW.mono ?_
  rintro e w2 ⟨u2, rfl, ⟨vv, rfl, hU⟩, he2⟩
  obtain ⟨u1, u2, rfl, hS2, hT2⟩ := hU.plain
  obtain ⟨A3, c3, rfl, -⟩ := id hS2
  obtain ⟨A4, c4, rfl, -⟩ := id hT2
  have HS2 := Lib.hid hS2; have HT2 := Lib.hid hT2
  have E2 := E1.trans he2
  have e12 := e1b.trans he2
  clear hU hS2 hT2 CVW
  have hsm := Lib.hid (show ((volWrite s t p bs).elim [] (·.1)).length ≤ 16 ∧ ((volWrite s t p bs).elim [] (·.2)).length ≤ 12 from small_write s t p bs)
  have Cs : Hid (∀ W, Ext w1 W → Calls Tryz.prog 34 #[.agg #[.slice A1 s.length c1, .slice A2 n c2], .string p, .slice Ab nb cb] W (RetP (OptVol W.heap.size (volWrite s t p bs)) W)) := Lib.hid fun W e => by
    have := specVolumeWrite_c W (HS.out.ext e) (HT.out.ext e) (HB.out.ext e) HP.out
    exact this
  obtain ⟨o, ho⟩ : ∃ o, volWrite s t p bs = o := ⟨_, rfl⟩
  rw [ho] at Cs HS2 HT2 hsm ⊢
  have HO := Lib.hid ho
  clear ho
  obtain ⟨s8, hs8⟩ : ∃ l, o.elim [] (·.1) = l := ⟨_, rfl⟩
  obtain ⟨t8, ht8⟩ : ∃ l, o.elim [] (·.2) = l := ⟨_, rfl⟩
  obtain ⟨ob, hob⟩ : ∃ b, o.isSome = b := ⟨_, rfl⟩
  rw [hs8] at HS2 hsm ⊢
  rw [ht8] at HT2 hsm ⊢
  rw [hob]
  have Cs2 : Hid (∀ W, Ext w1 W → Calls Tryz.prog 34 #[.agg #[.slice A1 s.length c1, .slice A2 n c2], .string p, .slice Ab nb cb] W (RetP (fun r W' => ∃ us ut, r = .tuple #[.agg #[us, ut], .bool ob] ∧ OwnS W.heap.size 110 3 (EHd W.heap.size) W' us s8 ∧ Its W.heap.size W' ut t8) W)) := Lib.hid fun W e => by
    rw [← hs8, ← ht8, ← hob]; exact Cs.out W e
  have Hon : Hid (ob = true → volWrite s t p bs = some (s8, t8)) := Lib.hid fun h => by
    rw [HO.out]
    cases o with
    | none => rw [← hob] at h; cases h
    | some x => rw [← hs8, ← ht8]; rfl
  clear Cs hs8 ht8 hob
  have q0 := fun o => X1_0.out (w2.alloc o) (he2.alloc o); have q1 := fun o => X1_1.out (w2.alloc o) (he2.alloc o)
  go_wp2_with fail
  clear q0 q1
  have hbx := Blk.new w2 61 #[.slice A3 s8.length c3, .slice A4 t8.length c4]
  have e2b : Ext w2 (w2.alloc (.cells #[.slice A3 s8.length c3, .slice A4 t8.length c4] 61)) := (Ext.refl _).alloc _
  obtain ⟨g2, hg2⟩ : ∃ g, w2.heap.size = g := ⟨_, rfl⟩
  rw [hg2] at hbx
  generalize hb2 : w2.alloc (.cells #[.slice A3 s8.length c3, .slice A4 t8.length c4] 61) = b2 at *
  have X2_0 := Lib.hid fun W (e : Ext b2 W) => hbx.at_ (i := 0) (u := .slice A3 s8.length c3) rfl W e
  have X2_1 := Lib.hid fun W (e : Ext b2 W) => hbx.at_ (i := 1) (u := .slice A4 t8.length c4) rfl W e
  clear hbx hb2
  have E2b := E2.trans e2b
  refine (Cs2.out _ (e12.trans e2b)).mono ?_
  rintro e w3 ⟨u3, rfl, ⟨us3, ut3, rfl, hO3, hT3⟩, he3⟩
  obtain ⟨A5, c5, rfl⟩ := hO3.form
  obtain ⟨A6, c6, rfl, -⟩ := id hT3
  have HS3 := Lib.hid (hO3.isHds (by have := hsm.out.1; unfold lim; omega)); have HT3 := Lib.hid hT3
  have E3 := E2b.trans he3
  have e23 := e2b.trans he3
  have e13 := e12.trans e23
  have Cv : Hid (∀ W, Ext w3 W → Calls Tryz.prog 35 #[.agg #[.slice A3 s8.length c3, .slice A4 t8.length c4], .agg #[.slice A5 s8.length c5, .slice A6 t8.length c6]] W (Ret (.bool true) W)) := Lib.hid fun W e => sameVolume_c W (HS2.out.ext (e23.trans e)) (HT2.out.ext (e23.trans e)) (HS3.out.ext e) (HT3.out.ext e)
  have eW := (Ext.refl w3).alloc (.cells #[.slice A5 s8.length c5, .slice A6 t8.length c6] 61)
  have y0 := X2_0.out _ (he3.trans eW); have y1 := X2_1.out _ (he3.trans eW)
  clear hO3 hT3 Cs2
  cases ob with
  | false =>
    have z0 := fun W (e : Ext _ W) => X2_0.out W ((he3.trans eW).trans e); have z1 := fun W (e : Ext _ W) => X2_1.out W ((he3.trans eW).trans e)
    have hbw := Blk.new w3 61 #[.slice A5 s8.length c5, .slice A6 t8.length c6]
    have k0 := fun W (e : Ext _ W) => hbw.at_ (i := 0) (u := .slice A5 s8.length c5) rfl W e; have k1 := fun W (e : Ext _ W) => hbw.at_ (i := 1) (u := .slice A6 t8.length c6) rfl W e
    clear hbw
    go_wp2_with fail
    refine (Cv.out _ eW).mono ?_
    rintro e w4 ⟨rfl, he4⟩
    have r0 := z0 _ he4; have r1 := z1 _ he4; have r2 := k0 _ he4; have r3 := k1 _ he4
    go_wp2_with fail
    refine (Cv.out _ (eW.trans he4)).mono ?_
    rintro e w5 ⟨rfl, he5⟩
    go_wp2
    go_ret
    exact ⟨rfl, ((E3.trans eW).trans he4).trans he5⟩
  | true =>
    have HW := Lib.hid (Hon.out rfl)
    go_wp2_with fail
    refine (Cv.out _ eW).mono ?_
    rintro e w4 ⟨rfl, he4⟩
    have E4 := (E3.trans eW).trans he4
    have e34 := eW.trans he4
    have e14 := e13.trans e34
    have HM4 : Hid (ML w4) := Lib.hid (HM.out.ext E4)
    have HS4 := Lib.hid ((HS2.out.ext e23).ext e34); have HT4 := Lib.hid ((HT2.out.ext e23).ext e34)
    have XO0 := Lib.hid fun W (e : Ext w4 W) => X2_0.out W ((he3.trans e34).trans e); have XO1 := Lib.hid fun W (e : Ext w4 W) => X2_1.out W ((he3.trans e34).trans e)
    have XV0 := Lib.hid fun W (e : Ext w4 W) => X1_0.out W (((he2.trans e23).trans e34).trans e); have XV1 := Lib.hid fun W (e : Ext w4 W) => X1_1.out W (((he2.trans e23).trans e34).trans e)
    clear y0 y1 Cv X1_0 X1_1 X2_0 X2_1
    have y0 := XO0.out _ (Ext.refl _); have y1 := XO1.out _ (Ext.refl _)
    have Hoth : Hid (∀ z, z ∈ t → z.path ≠ p → readOf s8 t8 z.path = readOf s t z.path) := Lib.hid (write_others HW.out)
    have Hlen : Hid (t8.length ≤ n + 1) := Lib.hid (by have := write_len HW.out; rw [Hn.out] at this; exact this)
    have Hl8 : Hid (t8.length ≤ 12) := Lib.hid hsm.out.2
    obtain ⟨n8, hn8⟩ : ∃ n, t8.length = n := ⟨_, rfl⟩
    have Hn8 := Lib.hid hn8
    rw [hn8] at y1 XO1 Hlen Hl8
    clear hn8
    go_wp2
    go_loopw [10, 11, 12, 13, 14] (fun i _ _ _ _ wr => ∃ k : Nat, k ≤ n ∧ i = .int .i64 k ∧ Ext w4 wr) (fun i _ _ _ _ _ => n - (RowKit.intOf i).toNat)
    case atStart => exact ⟨0, by omega, rfl, Ext.refl _⟩
    case round =>
      obtain ⟨k, hk, rfl, he⟩ := hrel
      have z0 := XV0.out wr he; have z1 := XV1.out wr he
      by_cases hlt : k < n
      · obtain ⟨x, hx⟩ := get_of_lt (l := t) (k := k) (by rw [Hn.out]; exact hlt)
        obtain ⟨b5, o5, u5, rfl, -, -, hps, -, q0, -, -⟩ := Its.at_ HTs.out hx
        have hxm := List.mem_of_getElem? hx
        have V0 := Lib.hid fun W (e : Ext wr W) => XV0.out W (he.trans e); have V1 := Lib.hid fun W (e : Ext wr W) => XV1.out W (he.trans e)
        have O0 := Lib.hid fun W (e : Ext wr W) => XO0.out W (he.trans e); have O1 := Lib.hid fun W (e : Ext wr W) => XO1.out W (he.trans e)
        have P0 := Lib.hid fun W (e : Ext wr W) => q0 W (e14.trans (he.trans e))
        have p0 := q0 wr (e14.trans he)
        have Hxp : Hid (x.path ≠ p → readOf s8 t8 x.path = readOf s t x.path) := Lib.hid (Hoth.out x hxm)
        clear q0 hx hxm
        go_wp2
        have v0 := fun W (e : Ext wr W) => V0.out W e; have v1 := fun W (e : Ext wr W) => V1.out W e; have pp := fun W (e : Ext wr W) => P0.out W e
        refine wp_region_hold (fun W => Ext wr W) 12 [(0, true), (1, true), (2, true), (3, true), (4, true), (5, true), (6, true), (7, false), (8, true), (9, true), (10, true), (11, true)] (by kernel_rfl) (by kernel_rfl) ?_ ?_
        · show Ext _ _; (repeat' (first | exact Ext.refl _ | assumption | refine Ext.alloc ?_ _ | refine Ext.drew ?_ | refine Ext.drewN ?_ _ | refine Ext.trans ?_ (by assumption)))
        (repeat (first | (apply hw_read (by rfl) (by rfl); (· (intro W hW; (try dsimp only at hW); go_simp; (first | done | rfl | (rw [if_pos] <;> first | omega | rfl)))); (try simp only [Act.put, List.setIfInBounds_toArray, List.set_cons_zero, List.set_cons_succ])) | (refine hw_skip (by rfl) (by rfl) ?_; (try simp only [Act.put, List.setIfInBounds_toArray, List.set_cons_zero, List.set_cons_succ]))))
        refine hw_step (by rfl) ?_
        go_wp2_with (go_at_call 36; refine (VolumeRead_c x.path _ (HS.out.ext (e14.trans he).drew) (HT.out.ext (e14.trans he).drew) hps (HM1.out.ext (e14.trans he).drew)).mono ?_; rintro e w5 ⟨u5, rfl, ⟨u6, rfl, hI5⟩, he5⟩)
        obtain ⟨A7, c7, rfl, -⟩ := id hI5
        have HI5 := Lib.hid hI5
        have e5 : Ext wr w5 := (Ext.refl wr).drew.trans he5
        refine ⟨e5, ?_⟩
        clear hI5
        (try (repeat (first | (apply hw_read (by rfl) (by rfl); (· (intro W hW; (try dsimp only at hW); go_simp; (first | done | rfl | (rw [if_pos] <;> first | omega | rfl)))); (try simp only [Act.put, List.setIfInBounds_toArray, List.set_cons_zero, List.set_cons_succ])) | (refine hw_skip (by rfl) (by rfl) ?_; (try simp only [Act.put, List.setIfInBounds_toArray, List.set_cons_zero, List.set_cons_succ])))))
        (refine hw_nil ?_; (try simp only [List.drop_succ_cons, List.drop_zero]))
        clear v0 v1 pp
        go_wp2
        refine NoPanic.normal ?_
        (try dsimp only [Exit.then])
        go_wp2
        have o0 := fun W (e : Ext w5 W) => O0.out W (e5.trans e); have o1 := fun W (e : Ext w5 W) => O1.out W (e5.trans e); have pp := fun W (e : Ext w5 W) => P0.out W (e5.trans e); have v1 := fun W (e : Ext w5 W) => V1.out W (e5.trans e)
        have hnn : t8.length = n8 := Hn8.out
        have CR := VolumeRead_c x.path w5.drew (HS4.out.ext (he.trans e5).drew) (HT4.out.ext (he.trans e5).drew) hps (HM4.out.ext (he.trans e5).drew)
        rw [hnn] at CR
        clear hnn
        refine wp_region_hold (fun W => Ext w5 W) 12 [(0, true), (1, true), (2, true), (3, true), (4, true), (5, true), (6, true), (7, false), (8, true), (9, true), (10, true), (11, true)] (by kernel_rfl) (by kernel_rfl) ?_ ?_
        · show Ext _ _; (repeat' (first | exact Ext.refl _ | assumption | refine Ext.alloc ?_ _ | refine Ext.drew ?_ | refine Ext.drewN ?_ _ | refine Ext.trans ?_ (by assumption)))
        (repeat (first | (apply hw_read (by rfl) (by rfl); (· (intro W hW; (try dsimp only at hW); go_simp; (first | done | rfl | (rw [if_pos] <;> first | omega | rfl)))); (try simp only [Act.put, List.setIfInBounds_toArray, List.set_cons_zero, List.set_cons_succ])) | (refine hw_skip (by rfl) (by rfl) ?_; (try simp only [Act.put, List.setIfInBounds_toArray, List.set_cons_zero, List.set_cons_succ]))))
        refine hw_step (by rfl) ?_
        go_wp2_with (go_at_call 36; refine CR.mono ?_; rintro e w6 ⟨u7, rfl, ⟨u8, rfl, hI6⟩, he6⟩)
        obtain ⟨A9, c9, rfl, -⟩ := id hI6
        have HI6 := Lib.hid hI6
        have e6 : Ext w5 w6 := (Ext.refl w5).drew.trans he6
        refine ⟨e6, ?_⟩
        clear hI6
        (try (repeat (first | (apply hw_read (by rfl) (by rfl); (· (intro W hW; (try dsimp only at hW); go_simp; (first | done | rfl | (rw [if_pos] <;> first | omega | rfl)))); (try simp only [Act.put, List.setIfInBounds_toArray, List.set_cons_zero, List.set_cons_succ])) | (refine hw_skip (by rfl) (by rfl) ?_; (try simp only [Act.put, List.setIfInBounds_toArray, List.set_cons_zero, List.set_cons_succ])))))
        (refine hw_nil ?_; (try simp only [List.drop_succ_cons, List.drop_zero]))
        clear o0 o1 pp v1 CR
        go_wp2
        refine NoPanic.normal ?_
        (try dsimp only [Exit.then])
        have e56 := e5.trans e6
        have v1 := V1.out w6 e56; have p6 := P0.out w6 e56
        have CI : Hid (x.path ≠ p → ∀ W, Ext w6 W → Calls Tryz.prog 37 #[.slice A7 ((readOf s t x.path).getD []).length c7, .slice A9 ((readOf s8 t8 x.path).getD []).length c9] W (Ret (.bool true) W)) := Lib.hid fun hne W e => by
          have h6 := HI6.out.ext e
          rw [Hxp.out hne] at h6 ⊢
          have := laws_sameInts_c W ((HI5.out.ext e6).ext e) h6
          rwa [show eqb ((readOf s t x.path).getD []) ((readOf s t x.path).getD []) = true from eqb_true.2 rfl] at this
        by_cases hxp : x.path = p
        · have hxy : (x.path.toList != p.toList) = false := by rw [hxp]; simp
          have hxe : (x.path.toList == p.toList) = true := by rw [hxp]; simp
          have hxl : x.path.toList = p.toList := by rw [hxp]
          clear hxp HI5 HI6 CI
          generalize (readOf s t x.path).isSome = q1 at *
          generalize (readOf s8 t8 x.path).isSome = q2 at *
          go_wp2
          go_roundw
          case rel => exact ⟨k + 1, by omega, by go_num, he.trans e56⟩
          case measure => simp [RowKit.intOf]; omega
        · have hxy : (x.path.toList != p.toList) = true := by rw [bne, bytes_ne_iff, decide_eq_false hxp]; rfl
          have hxe : (x.path.toList == p.toList) = false := by rw [bytes_ne_iff, decide_eq_false hxp]
          have hxl : ¬ x.path.toList = p.toList := fun h => by rw [h] at hxe; simp at hxe
          have hC := CI.out hxp
          have hr := Hxp.out hxp
          rw [hr] at hC ⊢
          have hC := hC w6 (Ext.refl _)
          clear hxp HI5 HI6 CI hr
          generalize ((readOf s t x.path).getD []).length = m1 at *
          generalize (readOf s t x.path).isSome = q1 at *
          cases q1 with
          | true =>
            go_wp2_with (go_at_call 37; refine hC.mono ?_; rintro e w7 ⟨rfl, he7⟩)
            go_roundw
            case rel => exact ⟨k + 1, by omega, by go_num, (he.trans e56).trans he7⟩
            case measure => simp [RowKit.intOf]; omega
          | false =>
            go_wp2_with (go_at_call 37; refine hC.mono ?_; rintro e w7 ⟨rfl, he7⟩)
            go_roundw
            case rel => exact ⟨k + 1, by omega, by go_num, (he.trans e56).trans he7⟩
            case measure => simp [RowKit.intOf]; omega
      · obtain rfl : k = n := by omega
        have z2 := XO1.out wr he
        have hw8 : IntKind.i64.wrap ((n8 : Int) - (k : Int)) = (n8 : Int) - (k : Int) := IntWalk.i64_in _ (by have := Hl8.out; omega)
        have hle8 : (n8 : Int) - (k : Int) ≤ 1 := by have := Hlen.out; omega
        clear z0
        go_wp2
        go_ret
        exact ⟨by first | rfl | simp, E4.trans he⟩
end Go.Sf
