/- Laws of drawn volumes: what was dropped can not be read. -/
import Derived.Test.YtmgnmfkkikmedaaGreatDoorHB
import Derived.Test.YtmgnmfkkikmedaaGreatDoorHC
import Derived.Test.YtmgnmfkkikmedaaGreatDoorGS
namespace Go.Sf
open Go Go.RowKit Go.Proofs
set_option maxRecDepth 4000 in
set_option maxHeartbeats 1000000 in
theorem sameVolume_c {B1 B2 B3 B4 : Nat} {a1 a2 b1 b2 : Value} {s : List Hd} {t : List It} (w : World) (h1 : Hds B1 w a1 s) (h2 : Its B2 w a2 t) (h3 : Hds B3 w b1 s) (h4 : Its B4 w b2 t) :
    Calls Tryz.prog 35 #[.agg #[a1, a2], .agg #[b1, b2]] w (Ret (.bool true) w) := by
  have H1 := Lib.hid h1; have H2 := Lib.hid h2; have H3 := Lib.hid h3; have H4 := Lib.hid h4
  obtain ⟨A1, c1, rfl, -⟩ := h1
  obtain ⟨A2, c2, rfl, -⟩ := h2
  obtain ⟨A3, c3, rfl, -⟩ := h3
  obtain ⟨A4, c4, rfl, -⟩ := h4
  have e0 : Ext w ((w.alloc (.cells #[.slice A1 s.length c1, .slice A2 t.length c2] 44)).alloc (.cells #[.slice A3 s.length c3, .slice A4 t.length c4] 44)) := ((Ext.refl w).alloc _).alloc _
  have hbk := (Blk.new w 44 #[.slice A1 s.length c1, .slice A2 t.length c2]).alloc (.cells #[.slice A3 s.length c3, .slice A4 t.length c4] 44)
  have hbl := Blk.new (w.alloc (.cells #[.slice A1 s.length c1, .slice A2 t.length c2] 44)) 44 #[.slice A3 s.length c3, .slice A4 t.length c4]
  simp only [World.size_alloc] at hbl
  have d1 := fun W (e : Ext _ W) => hbk.at_ (i := 1) (u := .slice A2 t.length c2) rfl W e
  have k1 := fun W (e : Ext _ W) => hbl.at_ (i := 1) (u := .slice A4 t.length c4) rfl W e
  have Ch := laws_sameStore_c _ (H1.out.ext e0) (H3.out.ext e0)
  rw [show eqb s s = true from eqb_true.2 rfl] at Ch
  have Ci : ∀ W, Ext w W → Calls Tryz.prog 94 #[.slice A2 t.length c2, .slice A4 t.length c4] W (Ret (.bool true) W) := fun W e => by
    have := laws_sameTree_c W (H2.out.ext e) (H4.out.ext e)
    rwa [show eqb t t = true from eqb_true.2 rfl] at this
  clear hbk hbl
  go_enter Tryz.func35, Tryz.ntmps35
  go_wp2_with (first | (go_at_call 37; refine Ch.mono ?_; rintro e w1 ⟨rfl, he1⟩; have q1 := d1 w1 he1; have q2 := k1 w1 he1) | (go_at_call 94; refine (Ci _ (e0.trans he1)).mono ?_; rintro e w2 ⟨rfl, he2⟩))
  go_ret
  exact ⟨rfl, (e0.trans he1).trans he2⟩
set_option maxHeartbeats 1000000 in
theorem FnVolumeDrop_big {A : Option Addr} {n c : Nat} (w : World) (hn : 1048576 < n) (hm : n ≤ maxLen) : Calls Tryz.prog 7 #[.slice A n c] w (Ret (.bool true) w) := by
  unfold maxLen at hm
  have h : (1048576 : Int) < (n : Int) := by omega
  go_enter Tryz.func7, Tryz.ntmps7
  go_wp2
  go_ret
  exact ⟨rfl, Ext.refl w⟩
set_option maxRecDepth 8000 in
set_option maxHeartbeats 4000000 in
theorem FnVolumeDrop_c {v : Value} {xs : List Int} (w : World) (h : Bys w v xs) (hm : ML w) (hl : xs.length ≤ 1048576) : Calls Tryz.prog 7 #[v] w (Ret (.bool true) w) := by
  have H := Lib.hid h
  obtain ⟨A0, c0, rfl, -⟩ := h
  have HM := Lib.hid hm; clear hm
  have hn : ¬ (1048576 : Int) < (xs.length : Int) := by omega
  go_enter Tryz.func7, Tryz.ntmps7
  go_wp2_with fail
  refine (DrawVolumeDrop_c _ H.out).mono ?_
  rintro e w1 ⟨us, ut, s, t, p, rfl, hS, hT, hs16, ht12, hp, he1⟩
  obtain ⟨A1, c1, rfl, -⟩ := id hS
  obtain ⟨A2, c2, rfl, -⟩ := id hT
  have HS := Lib.hid hS; have HT := Lib.hid hT; have HP := Lib.hid hp
  have HM1 := Lib.hid (HM.out.ext he1)
  clear hS hT hp
  go_wp2_with fail
  have hbx := Blk.new w1 44 #[.slice A1 s.length c1, .slice A2 t.length c2]
  have e1b : Ext w1 (w1.alloc (.cells #[.slice A1 s.length c1, .slice A2 t.length c2] 44)) := (Ext.refl _).alloc _
  obtain ⟨g1, hg1⟩ : ∃ g, w1.heap.size = g := ⟨_, rfl⟩
  rw [hg1] at hbx
  generalize hb1 : w1.alloc (.cells #[.slice A1 s.length c1, .slice A2 t.length c2] 44) = b1 at *
  have X1_0 := Lib.hid fun W (e : Ext b1 W) => hbx.at_ (i := 0) (u := .slice A1 s.length c1) rfl W e
  have X1_1 := Lib.hid fun W (e : Ext b1 W) => hbx.at_ (i := 1) (u := .slice A2 t.length c2) rfl W e
  clear hbx hb1
  have E1 := he1.trans e1b
  refine (VolumeDrop_c b1 (HS.out.ext e1b) (HT.out.ext e1b) HP.out (HM1.out.ext e1b)).mono ?_
  rintro e w2 ⟨u2, rfl, ⟨vv, rfl, hU⟩, he2⟩
  obtain ⟨u1, u2, rfl, hS2, hT2⟩ := hU.plain
  obtain ⟨A3, c3, rfl, -⟩ := id hS2
  obtain ⟨A4, c4, rfl, -⟩ := id hT2
  have HS2 := Lib.hid hS2; have HT2 := Lib.hid hT2
  have E2 := E1.trans he2
  have e12 := e1b.trans he2
  clear hU hS2 hT2
  have hsm := Lib.hid (show ((volDrop s t p).elim [] (·.1)).length ≤ 16 ∧ ((volDrop s t p).elim [] (·.2)).length ≤ 12 from small_drop s t p)
  have Cs : Hid (∀ W, Ext w1 W → Calls Tryz.prog 40 #[.agg #[.slice A1 s.length c1, .slice A2 t.length c2], .string p] W (RetP (fun r W' => ∃ us ut, r = .tuple #[.agg #[us, ut], .bool (volDrop s t p).isSome] ∧ OwnS W.heap.size 70 3 (EHd W.heap.size) W' us ((volDrop s t p).elim [] (·.1)) ∧ Its W.heap.size W' ut ((volDrop s t p).elim [] (·.2))) W)) := Lib.hid fun W e => specVolumeDrop_c W (HS.out.ext e) (HT.out.ext e)
  have Hfn : Hid ((volDrop s t p).isSome = true → volOk ((volDrop s t p).elim [] (·.1)) ((volDrop s t p).elim [] (·.2)) = true ∧ ((volDrop s t p).elim [] (·.1)).length ≤ s.length ∧ ((volDrop s t p).elim [] (·.2)).length + 1 = t.length ∧ findIt ((volDrop s t p).elim [] (·.2)) p = none) := Lib.hid fun hh => by
    obtain ⟨⟨s', t'⟩, hq⟩ := Option.isSome_iff_exists.1 hh
    rw [hq]
    exact (volDrop_some hq).2
  generalize (volDrop s t p).isSome = ob at *
  generalize ((volDrop s t p).elim [] (·.1)) = s8 at *
  generalize ((volDrop s t p).elim [] (·.2)) = t8 at *
  have q0 := fun o => X1_0.out (w2.alloc o) (he2.alloc o); have q1 := fun o => X1_1.out (w2.alloc o) (he2.alloc o)
  go_wp2_with fail
  clear q0 q1
  have hbx := Blk.new w2 44 #[.slice A3 s8.length c3, .slice A4 t8.length c4]
  have e2b : Ext w2 (w2.alloc (.cells #[.slice A3 s8.length c3, .slice A4 t8.length c4] 44)) := (Ext.refl _).alloc _
  obtain ⟨g2, hg2⟩ : ∃ g, w2.heap.size = g := ⟨_, rfl⟩
  rw [hg2] at hbx
  generalize hb2 : w2.alloc (.cells #[.slice A3 s8.length c3, .slice A4 t8.length c4] 44) = b2 at *
  have X2_0 := Lib.hid fun W (e : Ext b2 W) => hbx.at_ (i := 0) (u := .slice A3 s8.length c3) rfl W e
  have X2_1 := Lib.hid fun W (e : Ext b2 W) => hbx.at_ (i := 1) (u := .slice A4 t8.length c4) rfl W e
  clear hbx hb2
  have E2b := E2.trans e2b
  refine (Cs.out _ (e12.trans e2b)).mono ?_
  rintro e w3 ⟨u3, rfl, ⟨us3, ut3, rfl, hO3, hT3⟩, he3⟩
  obtain ⟨A5, c5, rfl⟩ := hO3.form
  obtain ⟨A6, c6, rfl, -⟩ := id hT3
  have HS3 := Lib.hid (hO3.isHds (by have := hsm.out.1; unfold lim; omega)); have HT3 := Lib.hid hT3
  have E3 := E2b.trans he3
  have e23 := e2b.trans he3
  have e13 := e12.trans e23
  have Cv : Hid (∀ W, Ext w3 W → Calls Tryz.prog 35 #[.agg #[.slice A3 s8.length c3, .slice A4 t8.length c4], .agg #[.slice A5 s8.length c5, .slice A6 t8.length c6]] W (Ret (.bool true) W)) := Lib.hid fun W e => sameVolume_c W (HS2.out.ext (e23.trans e)) (HT2.out.ext (e23.trans e)) (HS3.out.ext e) (HT3.out.ext e)
  have eW := (Ext.refl w3).alloc (.cells #[.slice A5 s8.length c5, .slice A6 t8.length c6] 44)
  have y0 := X2_0.out _ (he3.trans eW); have y1 := X2_1.out _ (he3.trans eW)
  clear hO3 hT3
  have hob : ∃ b, ob = b := ⟨_, rfl⟩
  obtain ⟨b9, rfl⟩ := hob
  cases ob with
  | false =>
    have z0 := fun W (e : Ext _ W) => X2_0.out W ((he3.trans eW).trans e); have z1 := fun W (e : Ext _ W) => X2_1.out W ((he3.trans eW).trans e)
    have hbw := Blk.new w3 44 #[.slice A5 s8.length c5, .slice A6 t8.length c6]
    have k0 := fun W (e : Ext _ W) => hbw.at_ (i := 0) (u := .slice A5 s8.length c5) rfl W e; have k1 := fun W (e : Ext _ W) => hbw.at_ (i := 1) (u := .slice A6 t8.length c6) rfl W e
    clear hbw
    go_wp2_with fail
    refine (Cv.out _ eW).mono ?_
    rintro e w4 ⟨rfl, he4⟩
    have r0 := z0 _ he4; have r1 := z1 _ he4; have r2 := k0 _ he4; have r3 := k1 _ he4
    go_wp2_with fail
    refine (Cv.out _ (eW.trans he4)).mono ?_
    rintro e w5 ⟨rfl, he5⟩
    go_wp2
    go_ret
    exact ⟨rfl, ((E3.trans eW).trans he4).trans he5⟩
  | true =>
    have hF := Hfn.out rfl
    go_wp2_with fail
    refine (Cv.out _ eW).mono ?_
    rintro e w4 ⟨rfl, he4⟩
    have E4 := (E3.trans eW).trans he4
    have e34 := eW.trans he4
    have HM4 : Hid (ML w4) := Lib.hid (HM.out.ext E4)
    have HS4 := Lib.hid ((HS2.out.ext e23).ext e34); have HT4 := Lib.hid ((HT2.out.ext e23).ext e34)
    have XO0 := Lib.hid fun W (e : Ext w4 W) => X2_0.out W ((he3.trans e34).trans e); have XO1 := Lib.hid fun W (e : Ext w4 W) => X2_1.out W ((he3.trans e34).trans e)
    have XV0 := Lib.hid fun W (e : Ext w4 W) => X1_0.out W (((he2.trans e23).trans e34).trans e); have XV1 := Lib.hid fun W (e : Ext w4 W) => X1_1.out W (((he2.trans e23).trans e34).trans e)
    clear y0 y1 Cv Cs X1_0 X1_1 X2_0 X2_1
    have y0 := XO0.out _ (Ext.refl _); have y1 := XO1.out _ (Ext.refl _)
    go_wp2_with fail
    refine (VolumeRead_c p w4 HS4.out HT4.out HP.out HM4.out).mono ?_
    rw [read_gone hF.2.2.2]
    rintro e w5 ⟨u5, rfl, ⟨u6, rfl, hI5⟩, he5⟩
    simp only [Option.isSome_none, Option.getD_none] at hI5 ⊢
    have v0 := XO0.out _ he5; have v1 := XO1.out _ he5
    clear y0 y1
    go_wp2_with fail
    refine (VolumeValid_c w5 (HS4.out.ext he5) (HT4.out.ext he5) (HM4.out.ext he5)).mono ?_
    rw [hF.1]
    rintro e w6 ⟨rfl, he6⟩
    have e46 := he5.trans he6
    have s0 := XO0.out _ e46; have s1 := XO1.out _ e46; have s2 := XV0.out _ e46; have s3 := XV1.out _ e46
    have hl1 := hF.2.1; have hl2 := hF.2.2.1
    have hl3 : IntKind.i64.wrap ((t.length : Int) - 1) = (t8.length : Int) := by rw [IntWalk.i64_in _ (by omega)]; omega
    have hl4 : (s8.length : Int) ≤ (s.length : Int) := by omega
    clear v0 v1 hF
    go_wp2
    go_ret
    exact ⟨rfl, E4.trans e46⟩
end Go.Sf
