/- Laws of drawn volumes: a new directory is empty. -/
import Derived.Test.YtdnnojghjnjnfaaGreatDoorHB
import Derived.Test.YtdnnojghjnjnfaaGreatDoorHC
import Derived.Test.YtdnnojghjnjnfaaGreatDoorGS
import Derived.Test.YtdnnojghjnjnfaaGreatDoorT28
import Derived.Test.YtdnnojghjnjnfaaGreatDoorTVDrop
import Derived.Test.YtdnnojghjnjnfaaGreatDoorT137
namespace Go.Sf
open Go Go.RowKit Go.Proofs
set_option maxRecDepth 4000 in
set_option maxHeartbeats 2000000 in
/-- an empty directory's list -/
theorem TreeList_new_c {B : Nat} {v : Value} {l : List It} (w : World) (h : Its B w v l) (ht : treeOk l = true) (p : ByteArray) (hp : p.size < lim) (hm : ML w) (hpi : p.toList.isEmpty = false) (hf : findIt l p = some (dirIt p)) (hk : kidsOf l (key (dirIt p)) = []) :
    Calls Tryz.prog 19 #[v, .string p] w (Ret (.tuple #[.slice none 0 0, .bool true]) w) := by
  have H := Lib.hid h; have Ht := Lib.hid ht; have HM := Lib.hid hm; have Hf := Lib.hid hf; have Hk := Lib.hid hk; have Hp := Lib.hid hp
  obtain ⟨A, c, rfl, -⟩ := id h
  clear h ht hm hf hk hp
  obtain ⟨hl, hg⟩ := treeOk_iff'.1 Ht.out
  have HG := Lib.hid hg; have HL := Lib.hid hl; clear hg hl
  go_enter Tryz.func19, Tryz.ntmps19
  go_wp2_with fail
  refine (openTree_c w H.out HM.out).mono ?_
  rintro e w1 ⟨he1, (⟨hf, -⟩ | ⟨-, adr, kv, rfl, hT⟩)⟩
  · rw [Ht.out] at hf; cases hf
  have HT := Lib.hid hT
  have hcp : ¬ 9223372036854775807 < p.size + 1 := by have := Hp.out; unfold lim at this; omega
  clear hT
  go_wp2_with fail
  refine (nodeFind_c HT.out HG.out (by have := HL.out; unfold lim; omega) p Hp.out (HM.out.ext he1)).mono ?_
  rintro e w2 ⟨rfl, he2⟩
  have Hv : findV l adr p = .pointer (some ⟨adr (key (dirIt p)), 0, none⟩) := by unfold findV; rw [Hf.out]
  rw [Hv]
  clear Hv
  obtain ⟨hB, hO, u, hnb, -⟩ := (HT.out.ext he2).nodes _ (findIt_some Hf.out).1
  rw [Hk.out] at hO
  obtain ⟨A3, c3, hkv⟩ := hO.form
  rw [hkv] at hnb
  have n1 := hnb.cell 1; have n3 := hnb.cell 3
  simp at n1 n3
  have hdd : (dirIt p).dir = true := rfl
  rw [hdd] at n1
  clear hnb hO hkv hdd
  generalize adr (key (dirIt p)) = ad at *
  go_wp2
  go_loopw [10, 42] (fun v i wr => v = .slice none 0 0 ∧ i = .int .i64 0 ∧ Ext w2 wr) (fun _ _ _ => 0)
  case atStart => exact ⟨rfl, rfl, Ext.refl _⟩
  case round =>
    obtain ⟨rfl, rfl, he⟩ := hrel
    go_wp2
    go_ret2
    exact ⟨rfl, (he1.trans he2).trans he⟩
theorem dir_fact {s s' : List Hd} {t t' : List It} {p : ByteArray} (h : volPut s t (dirIt p) = some (s', t')) : s' = s ∧ volOk s' t' = true ∧ treeOk t' = true ∧ findIt t' p = some (dirIt p) ∧ kidsOf t' (key (dirIt p)) = [] ∧ p.toList.isEmpty = false := by
  obtain ⟨rfl, -, h2, h3⟩ := volPut_some h
  obtain ⟨-, h5, h6, hp, -, -⟩ := put_dir h3
  refine ⟨rfl, h2, h6, tree_find h6 (hp.mem_iff.2 List.mem_cons_self), new_empty h3, emp_false (pathOk_ne (itemOk_path h5))⟩
set_option maxHeartbeats 1000000 in
theorem FnVolumeDir_big {A : Option Addr} {n c : Nat} (w : World) (hn : 1048576 < n) (hm : n ≤ maxLen) : Calls Tryz.prog 3 #[.slice A n c] w (Ret (.bool true) w) := by
  unfold maxLen at hm
  have h : (1048576 : Int) < (n : Int) := by omega
  go_enter Tryz.func3, Tryz.ntmps3
  go_wp2
  go_ret
  exact ⟨rfl, Ext.refl w⟩
set_option maxRecDepth 8000 in
set_option maxHeartbeats 4000000 in
theorem FnVolumeDir_c {v : Value} {xs : List Int} (w : World) (h : Bys w v xs) (hm : ML w) (hl : xs.length ≤ 1048576) : Calls Tryz.prog 3 #[v] w (Ret (.bool true) w) := by
  have H := Lib.hid h
  obtain ⟨A0, c0, rfl, -⟩ := h
  have HM := Lib.hid hm; clear hm
  have hn : ¬ (1048576 : Int) < (xs.length : Int) := by omega
  go_enter Tryz.func3, Tryz.ntmps3
  go_wp2_with fail
  refine (DrawVolumeDir_c _ H.out).mono ?_
  rintro e w1 ⟨us, ut, s, t, p, rfl, hS, hT, hs16, ht12, hp, he1⟩
  obtain ⟨A1, c1, rfl, -⟩ := id hS
  obtain ⟨A2, c2, rfl, -⟩ := id hT
  have HS := Lib.hid hS; have HT := Lib.hid hT; have HP := Lib.hid hp
  have HM1 := Lib.hid (HM.out.ext he1)
  clear hS hT hp
  go_wp2_with fail
  have hbx := Blk.new w1 26 #[.slice A1 s.length c1, .slice A2 t.length c2]
  have e1b : Ext w1 (w1.alloc (.cells #[.slice A1 s.length c1, .slice A2 t.length c2] 26)) := (Ext.refl _).alloc _
  obtain ⟨g1, hg1⟩ : ∃ g, w1.heap.size = g := ⟨_, rfl⟩
  rw [hg1] at hbx
  generalize hb1 : w1.alloc (.cells #[.slice A1 s.length c1, .slice A2 t.length c2] 26) = b1 at *
  have X1_0 := Lib.hid fun W (e : Ext b1 W) => hbx.at_ (i := 0) (u := .slice A1 s.length c1) rfl W e
  have X1_1 := Lib.hid fun W (e : Ext b1 W) => hbx.at_ (i := 1) (u := .slice A2 t.length c2) rfl W e
  clear hbx hb1
  have E1 := he1.trans e1b
  refine (VolumeDir_c b1 (HS.out.ext e1b) (HT.out.ext e1b) HP.out (HM1.out.ext e1b)).mono ?_
  rintro e w2 ⟨u2, rfl, ⟨vv, rfl, hU⟩, he2⟩
  obtain ⟨u1, u2, rfl, hS2, hT2⟩ := hU.plain
  obtain ⟨A3, c3, rfl, -⟩ := id hS2
  obtain ⟨A4, c4, rfl, -⟩ := id hT2
  have HS2 := Lib.hid hS2; have HT2 := Lib.hid hT2
  have E2 := E1.trans he2
  have e12 := e1b.trans he2
  clear hU hS2 hT2
  have hsm := Lib.hid (show ((volPut s t (dirIt p)).elim [] (·.1)).length ≤ 16 ∧ ((volPut s t (dirIt p)).elim [] (·.2)).length ≤ 12 from small_put s t (dirIt p))
  have Cs : Hid (∀ W, Ext w1 W → Calls Tryz.prog 17 #[.agg #[.slice A1 s.length c1, .slice A2 t.length c2], .string p] W (RetP (fun r W' => ∃ us ut, r = .tuple #[.agg #[us, ut], .bool (volPut s t (dirIt p)).isSome] ∧ OwnS W.heap.size 45 3 (EHd W.heap.size) W' us ((volPut s t (dirIt p)).elim [] (·.1)) ∧ Its W.heap.size W' ut ((volPut s t (dirIt p)).elim [] (·.2))) W)) := Lib.hid fun W e => specVolumeDir_c W (HS.out.ext e) (HT.out.ext e) HP.out
  have Hfn : Hid ((volPut s t (dirIt p)).isSome = true → ((volPut s t (dirIt p)).elim [] (·.1)) = s ∧ volOk ((volPut s t (dirIt p)).elim [] (·.1)) ((volPut s t (dirIt p)).elim [] (·.2)) = true ∧ treeOk ((volPut s t (dirIt p)).elim [] (·.2)) = true ∧ findIt ((volPut s t (dirIt p)).elim [] (·.2)) p = some (dirIt p) ∧ kidsOf ((volPut s t (dirIt p)).elim [] (·.2)) (key (dirIt p)) = [] ∧ p.toList.isEmpty = false) := Lib.hid fun hh => by
    obtain ⟨⟨s', t'⟩, hq⟩ := Option.isSome_iff_exists.1 hh
    rw [hq]
    exact dir_fact hq
  generalize (volPut s t (dirIt p)).isSome = ob at *
  generalize ((volPut s t (dirIt p)).elim [] (·.1)) = s8 at *
  generalize ((volPut s t (dirIt p)).elim [] (·.2)) = t8 at *
  have q0 := fun o => X1_0.out (w2.alloc o) (he2.alloc o); have q1 := fun o => X1_1.out (w2.alloc o) (he2.alloc o)
  go_wp2_with fail
  clear q0 q1
  have hbx := Blk.new w2 26 #[.slice A3 s8.length c3, .slice A4 t8.length c4]
  have e2b : Ext w2 (w2.alloc (.cells #[.slice A3 s8.length c3, .slice A4 t8.length c4] 26)) := (Ext.refl _).alloc _
  obtain ⟨g2, hg2⟩ : ∃ g, w2.heap.size = g := ⟨_, rfl⟩
  rw [hg2] at hbx
  generalize hb2 : w2.alloc (.cells #[.slice A3 s8.length c3, .slice A4 t8.length c4] 26) = b2 at *
  have X2_0 := Lib.hid fun W (e : Ext b2 W) => hbx.at_ (i := 0) (u := .slice A3 s8.length c3) rfl W e
  have X2_1 := Lib.hid fun W (e : Ext b2 W) => hbx.at_ (i := 1) (u := .slice A4 t8.length c4) rfl W e
  clear hbx hb2
  have E2b := E2.trans e2b
  refine (Cs.out _ (e12.trans e2b)).mono ?_
  rintro e w3 ⟨u3, rfl, ⟨us3, ut3, rfl, hO3, hT3⟩, he3⟩
  obtain ⟨A5, c5, rfl⟩ := hO3.form
  obtain ⟨A6, c6, rfl, -⟩ := id hT3
  have HS3 := Lib.hid (hO3.isHds (by have := hsm.out.1; unfold lim; omega)); have HT3 := Lib.hid hT3
  have E3 := E2b.trans he3
  have e23 := e2b.trans he3
  have e13 := e12.trans e23
  have Cv : Hid (∀ W, Ext w3 W → Calls Tryz.prog 18 #[.agg #[.slice A3 s8.length c3, .slice A4 t8.length c4], .agg #[.slice A5 s8.length c5, .slice A6 t8.length c6]] W (Ret (.bool true) W)) := Lib.hid fun W e => sameVolume_c W (HS2.out.ext (e23.trans e)) (HT2.out.ext (e23.trans e)) (HS3.out.ext e) (HT3.out.ext e)
  have eW := (Ext.refl w3).alloc (.cells #[.slice A5 s8.length c5, .slice A6 t8.length c6] 26)
  have y0 := X2_0.out _ (he3.trans eW); have y1 := X2_1.out _ (he3.trans eW)
  clear hO3 hT3
  have hob : ∃ b, ob = b := ⟨_, rfl⟩
  obtain ⟨b9, rfl⟩ := hob
  cases ob with
  | false =>
    have z0 := fun W (e : Ext _ W) => X2_0.out W ((he3.trans eW).trans e); have z1 := fun W (e : Ext _ W) => X2_1.out W ((he3.trans eW).trans e)
    have hbw := Blk.new w3 26 #[.slice A5 s8.length c5, .slice A6 t8.length c6]
    have k0 := fun W (e : Ext _ W) => hbw.at_ (i := 0) (u := .slice A5 s8.length c5) rfl W e; have k1 := fun W (e : Ext _ W) => hbw.at_ (i := 1) (u := .slice A6 t8.length c6) rfl W e
    clear hbw
    go_wp2_with fail
    refine (Cv.out _ eW).mono ?_
    rintro e w4 ⟨rfl, he4⟩
    have r0 := z0 _ he4; have r1 := z1 _ he4; have r2 := k0 _ he4; have r3 := k1 _ he4
    go_wp2_with fail
    refine (Cv.out _ (eW.trans he4)).mono ?_
    rintro e w5 ⟨rfl, he5⟩
    go_wp2
    go_ret
    exact ⟨rfl, ((E3.trans eW).trans he4).trans he5⟩
  | true =>
    have HF := Lib.hid (Hfn.out rfl)
    go_wp2_with fail
    refine (Cv.out _ eW).mono ?_
    rintro e w4 ⟨rfl, he4⟩
    have E4 := (E3.trans eW).trans he4
    have e34 := eW.trans he4
    have HM4 : Hid (ML w4) := Lib.hid (HM.out.ext E4)
    have HS4 := Lib.hid ((HS2.out.ext e23).ext e34); have HT4 := Lib.hid ((HT2.out.ext e23).ext e34)
    have XO0 := Lib.hid fun W (e : Ext w4 W) => X2_0.out W ((he3.trans e34).trans e); have XO1 := Lib.hid fun W (e : Ext w4 W) => X2_1.out W ((he3.trans e34).trans e)
    have XV0 := Lib.hid fun W (e : Ext w4 W) => X1_0.out W (((he2.trans e23).trans e34).trans e); have XV1 := Lib.hid fun W (e : Ext w4 W) => X1_1.out W (((he2.trans e23).trans e34).trans e)
    clear y0 y1 Cv Cs X1_0 X1_1 X2_0 X2_1
    have y0 := XO0.out _ (Ext.refl _); have y1 := XO1.out _ (Ext.refl _)
    go_wp2_with fail
    refine (TreeList_new_c w4 HT4.out HF.out.2.2.1 p HP.out HM4.out HF.out.2.2.2.2.2 HF.out.2.2.2.1 HF.out.2.2.2.2.1).mono ?_
    rintro e w5 ⟨rfl, he5⟩
    have v0 := XO0.out _ he5; have v1 := XO1.out _ he5
    clear y0 y1
    go_wp2_with fail
    refine (VolumeValid_c w5 (HS4.out.ext he5) (HT4.out.ext he5) (HM4.out.ext he5)).mono ?_
    rw [HF.out.2.1]
    rintro e w6 ⟨rfl, he6⟩
    have e46 := he5.trans he6
    have s0 := XO0.out _ e46; have s2 := XV0.out _ e46
    clear v0 v1
    go_wp2_with fail
    have Cq := laws_sameStore_c w6 (HS4.out.ext e46) ((HS.out.ext (e13.trans e34)).ext e46)
    rw [show eqb s8 s = true from eqb_true.2 HF.out.1] at Cq
    refine Cq.mono ?_
    rintro e w7 ⟨rfl, he7⟩
    go_wp2
    go_ret
    exact ⟨rfl, E4.trans (e46.trans he7)⟩
end Go.Sf
