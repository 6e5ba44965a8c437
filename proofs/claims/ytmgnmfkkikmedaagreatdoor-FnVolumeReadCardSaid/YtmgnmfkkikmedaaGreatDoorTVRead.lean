/- Laws of drawn volumes: what is read is what the store has. -/
import Derived.Test.YtmgnmfkkikmedaaGreatDoorHB
import Derived.Test.YtmgnmfkkikmedaaGreatDoorHC
import Derived.Test.YtmgnmfkkikmedaaGreatDoorGS
import Derived.Test.YtmgnmfkkikmedaaGreatDoorT28
namespace Go.Sf
open Go Go.RowKit Go.Proofs
set_option maxHeartbeats 1000000 in
theorem implFileValid_c {B : Nat} {v : Value} {bs : List Int} (w : World) (h : Ints B w v bs) (hf : fileOk bs = true) : Calls Tryz.prog 31 #[v] w (Ret (.bool true) w) := by
  unfold fileOk at hf
  rw [Bool.and_eq_true, decide_eq_true_eq] at hf
  obtain ⟨h2, h1⟩ := hf
  have C := bytesValid_c w h
  rw [h2] at C
  have hl : (bs.length : Int) ≤ 32 := by omega
  have hl2 : ¬ (32 : Int) < (bs.length : Int) := by omega
  obtain ⟨A, c, rfl, -⟩ := h
  clear h2
  go_enter Tryz.func31, Tryz.ntmps31
  go_wp2_with (go_at_call 86; refine C.mono ?_; rintro e w1 ⟨rfl, he1⟩)
  go_ret
  exact ⟨rfl, he1⟩
set_option maxHeartbeats 1000000 in
theorem FileLoad_c {B B' : Nat} {us v : Value} {s : List Hd} {ids : List Int} (w : World) (h : Hds B w us s) (hi : Ints B' w v ids) (hs : storeOk s = true) : Calls Tryz.prog 30 #[us, v] w (RetP (OptInts w.heap.size (loadIf s ids)) w) := by
  have HI := Lib.hid hi; have Hs := Lib.hid hs
  have Co := openStore_c w h
  obtain ⟨A, c, rfl, -⟩ := h
  obtain ⟨A2, c2, rfl, -⟩ := id hi
  clear hi hs
  go_enter Tryz.func30, Tryz.ntmps30
  go_wp2_with fail
  refine Co.mono ?_
  rintro e w1 ⟨he1, ⟨hv, -⟩ | ⟨-, b, rfl, hSt, -⟩⟩
  · rw [Hs.out] at hv; cases hv
  · have HSt := Lib.hid hSt; clear hSt
    go_wp2_with fail
    refine (loadFile_c w1 (storeOk_iff.1 Hs.out) HSt.out (HI.out.ext he1)).mono ?_
    rintro e w2 ⟨u, rfl, ⟨u2, rfl, hI⟩, he2⟩
    go_wp2
    go_ret2
    exact ⟨_, rfl, ⟨_, rfl, hI.keep he1.size (fun _ _ _ => rfl)⟩, he1.trans he2⟩
set_option maxHeartbeats 1000000 in
theorem FnVolumeRead_big {A : Option Addr} {n c : Nat} (w : World) (hn : 1048576 < n) (hm : n ≤ maxLen) : Calls Tryz.prog 5 #[.slice A n c] w (Ret (.bool true) w) := by
  unfold maxLen at hm
  have h : (1048576 : Int) < (n : Int) := by omega
  go_enter Tryz.func5, Tryz.ntmps5
  go_wp2
  go_ret
  exact ⟨rfl, Ext.refl w⟩
set_option maxRecDepth 8000 in
set_option maxHeartbeats 4000000 in
theorem FnVolumeRead_c {v : Value} {xs : List Int} (w : World) (h : Bys w v xs) (hm : ML w) (hl : xs.length ≤ 1048576) : Calls Tryz.prog 5 #[v] w (Ret (.bool true) w) := by
  have H := Lib.hid h
  obtain ⟨A0, c0, rfl, -⟩ := h
  have HM := Lib.hid hm; clear hm
  have hn : ¬ (1048576 : Int) < (xs.length : Int) := by omega
  go_enter Tryz.func5, Tryz.ntmps5
  go_wp2_with fail
  refine (DrawVolumeRead_c _ H.out).mono ?_
  rintro e w1 ⟨us, ut, s, t, p, rfl, hS, hT, hs16, ht12, hp, he1⟩
  obtain ⟨A1, c1, rfl, -⟩ := id hS
  obtain ⟨A2, c2, rfl, -⟩ := id hT
  have HS := Lib.hid hS; have HT := Lib.hid hT; have HP := Lib.hid hp
  have HM1 := Lib.hid (HM.out.ext he1)
  clear hS hT hp
  go_wp2_with fail
  have hbx := Blk.new w1 44 #[.slice A1 s.length c1, .slice A2 t.length c2]
  have e1b : Ext w1 (w1.alloc (.cells #[.slice A1 s.length c1, .slice A2 t.length c2] 44)) := (Ext.refl _).alloc _
  obtain ⟨g1, hg1⟩ : ∃ g, w1.heap.size = g := ⟨_, rfl⟩
  rw [hg1] at hbx
  generalize hb1 : w1.alloc (.cells #[.slice A1 s.length c1, .slice A2 t.length c2] 44) = b1 at *
  have X1_0 := Lib.hid fun W (e : Ext b1 W) => hbx.at_ (i := 0) (u := .slice A1 s.length c1) rfl W e
  have X1_1 := Lib.hid fun W (e : Ext b1 W) => hbx.at_ (i := 1) (u := .slice A2 t.length c2) rfl W e
  clear hbx hb1
  have E1 := he1.trans e1b
  refine (VolumeRead_c p b1 (HS.out.ext e1b) (HT.out.ext e1b) HP.out (HM1.out.ext e1b)).mono ?_
  rintro e w2 ⟨u2, rfl, ⟨vv, rfl, hI2⟩, he2⟩
  obtain ⟨A3, c3, rfl, -⟩ := id hI2
  have HI2 := Lib.hid hI2
  have E2 := E1.trans he2
  have e12 := e1b.trans he2
  clear hI2
  have q0 := X1_0.out w2 he2; have q1 := X1_1.out w2 he2
  have Cr : Hid (∀ W, Ext w1 W → Calls Tryz.prog 27 #[.agg #[.slice A1 s.length c1, .slice A2 t.length c2], .string p] W (RetP (OptInts W.heap.size (readOf s t p)) W)) := Lib.hid fun W e => specVolumeRead_c p W (HS.out.ext e) (HT.out.ext e)
  have hex : ∃ o, readOf s t p = o := ⟨_, rfl⟩
  obtain ⟨o, ho⟩ := hex
  rw [ho] at Cr HI2 ⊢
  have HO := Lib.hid ho
  clear ho
  cases o with
  | none =>
    simp only [Option.isSome_none, Option.getD_none] at HI2 ⊢
    go_wp2_with fail
    refine (Cr.out w2 e12).mono ?_
    rintro e w3 ⟨u3, rfl, ⟨v3, rfl, hI3⟩, he3⟩
    simp only [Option.isSome_none, Option.getD_none] at hI3 ⊢
    obtain ⟨A4, c4, rfl, -⟩ := id hI3
    have HI3 := Lib.hid hI3
    have Cs : Hid (∀ W, Ext w3 W → Calls Tryz.prog 28 #[.slice A3 ([] : List Int).length c3, .slice A4 ([] : List Int).length c4] W (Ret (.bool true) W)) := Lib.hid fun W e => by
      have := laws_sameInts_c W (HI2.out.ext (he3.trans e)) (HI3.out.ext e)
      rwa [show eqb ([] : List Int) [] = true from eqb_true.2 rfl] at this
    clear hI3 q0 q1
    go_wp2_with fail
    refine (Cs.out w3 (Ext.refl _)).mono ?_
    rintro e w4 ⟨rfl, he4⟩
    go_wp2_with fail
    refine (Cs.out w4 he4).mono ?_
    rintro e w5 ⟨rfl, he5⟩
    go_wp2
    go_ret
    exact ⟨rfl, ((E2.trans he3).trans he4).trans he5⟩
  | some out =>
    simp only [Option.isSome_some, Option.getD_some] at HI2 ⊢
    obtain ⟨x, hv, hf, hxt, hxd, hfit, hSO, htok, hout, hfok⟩ := readOf_some HO.out
    have Hout := Lib.hid hout; have Hf := Lib.hid hf; have Hfit := Lib.hid hfit; have Hxd := Lib.hid hxd; have Hfok := Lib.hid hfok; have HSO := Lib.hid hSO; have Htok := Lib.hid htok
    clear hout hf hv hfit hxd hfok hxt hSO htok
    go_wp2_with fail
    refine (Cr.out w2 e12).mono ?_
    rintro e w3 ⟨u3, rfl, ⟨v3, rfl, hI3⟩, he3⟩
    simp only [Option.isSome_some, Option.getD_some] at hI3 ⊢
    obtain ⟨A4, c4, rfl, -⟩ := id hI3
    have HI3 := Lib.hid hI3
    have Cs : Hid (∀ W, Ext w3 W → Calls Tryz.prog 28 #[.slice A3 out.length c3, .slice A4 out.length c4] W (Ret (.bool true) W)) := Lib.hid fun W e => by
      have := laws_sameInts_c W (HI2.out.ext (he3.trans e)) (HI3.out.ext e)
      rwa [show eqb out out = true from eqb_true.2 rfl] at this
    have e13 := e12.trans he3
    have XO0 := Lib.hid fun W (e : Ext w3 W) => X1_0.out W ((he2.trans he3).trans e); have XO1 := Lib.hid fun W (e : Ext w3 W) => X1_1.out W ((he2.trans he3).trans e)
    clear hI3 q0 q1 X1_0 X1_1
    go_wp2_with fail
    refine (Cs.out w3 (Ext.refl _)).mono ?_
    rintro e w4 ⟨rfl, he4⟩
    have y1 := XO1.out w4 he4
    go_wp2_with fail
    have CF := TreeFind_c w4 (HT.out.ext (e13.trans he4)) Htok.out p HP.out (HM1.out.ext (e13.trans he4))
    rw [Hf.out] at CF
    refine CF.mono ?_
    rintro e w5 ⟨u5, rfl, he5, hV5⟩
    simp only [Option.isSome_some, Option.getD_some] at hV5 ⊢
    obtain ⟨u6, rfl, -, hI6⟩ := hV5
    obtain ⟨A6, c6, rfl, -⟩ := id hI6
    have HI6 := Lib.hid hI6
    have e35 := he4.trans he5
    have e15 := e13.trans e35
    clear y1 CF hI6
    rw [Hxd.out]
    have y0 := fun o => XO0.out (w5.alloc o) (e35.alloc o)
    go_wp2_with fail
    have hbx := Blk.new w5 51 #[.string x.path, .bool false, .slice A6 x.ids.length c6]
    have e5b : Ext w5 (w5.alloc (.cells #[.string x.path, .bool false, .slice A6 x.ids.length c6] 51)) := (Ext.refl _).alloc _
    obtain ⟨g5, hg5⟩ : ∃ g, w5.heap.size = g := ⟨_, rfl⟩
    rw [hg5] at hbx
    generalize hb5 : w5.alloc (.cells #[.string x.path, .bool false, .slice A6 x.ids.length c6] 51) = b5 at *
    have X5_0 := Lib.hid fun W (e : Ext b5 W) => hbx.at_ (i := 0) (u := .string x.path) rfl W e
    have X5_1 := Lib.hid fun W (e : Ext b5 W) => hbx.at_ (i := 1) (u := .bool false) rfl W e
    have X5_2 := Lib.hid fun W (e : Ext b5 W) => hbx.at_ (i := 2) (u := .slice A6 x.ids.length c6) rfl W e
    clear hbx hb5
    have e15b := e15.trans e5b
    have CL := FileLoad_c b5 (HS.out.ext e15b) (HI6.out.ext e5b) (storeOk_iff.2 HSO.out)
    rw [show loadIf s x.ids = some out by unfold loadIf; rw [if_pos (idsFit_iff.2 Hfit.out), ← Hout.out]] at CL
    refine CL.mono ?_
    rintro e w6 ⟨u7, rfl, ⟨u8, rfl, hI8⟩, he6⟩
    simp only [Option.isSome_some, Option.getD_some] at hI8 ⊢
    obtain ⟨A8, c8, rfl, -⟩ := id hI8
    have HI8 := Lib.hid hI8
    have e36 := (e35.trans e5b).trans he6
    have z1 := X5_1.out w6 he6
    clear hI8 CL
    go_wp2_with fail
    have Ct := laws_sameInts_c w6 HI8.out (HI2.out.ext (he3.trans e36))
    rw [show eqb out out = true from eqb_true.2 rfl] at Ct
    refine Ct.mono ?_
    rintro e w7 ⟨rfl, he7⟩
    go_wp2_with fail
    refine (implFileValid_c w7 (HI2.out.ext (he3.trans (e36.trans he7))) Hfok.out).mono ?_
    rintro e w8 ⟨rfl, he8⟩
    go_wp2
    go_ret
    exact ⟨rfl, ((E2.trans he3).trans e36).trans (he7.trans he8)⟩
end Go.Sf
