/- The exact law of VolumeDir. -/
import Derived.Test.YtneabdoianmfhaaGreatDoorT137
namespace Go.Sf
open Go Go.RowKit Go.Proofs
set_option maxRecDepth 8000 in
set_option maxHeartbeats 4000000 in
theorem FnExactVolumeDir_c {vs vt : Value} {s : List Hd} {t : List It} {p : ByteArray} (w : World) (hs : AHds w vs s) (ht : AIts w vt t) (hp : p.size ≤ maxLen) (hm : ML w) : Calls Tryz.prog 8 #[.agg #[vs, vt], .string p] w (Ret (.bool true) w) := by
  unfold maxLen at hp
  have HS := Lib.hid hs; have HT := Lib.hid ht; have HM := Lib.hid hm
  obtain ⟨A, c, rfl, -⟩ := hs
  obtain ⟨A2, c2, rfl, -⟩ := ht
  have e0 : Ext w (w.alloc (.cells #[.slice A s.length c, .slice A2 t.length c2] 63)) := (Ext.refl w).alloc _
  by_cases hF : (1048576 : Int) < (p.size : Int)
  · clear hm
    go_enter Tryz.func8, Tryz.ntmps8
    go_wp2
    go_ret
    exact ⟨rfl, e0⟩
  have hbk := Blk.new w 63 #[.slice A s.length c, .slice A2 t.length c2]
  have d0 := fun W (e : Ext _ W) => hbk.at_ (i := 0) (u := .slice A s.length c) rfl W e
  have d1 := fun W (e : Ext _ W) => hbk.at_ (i := 1) (u := .slice A2 t.length c2) rfl W e
  have Cz := szVolume_c (left := 1048576) _ (HS.out.ext e0) (HT.out.ext e0) (by omega) (by omega)
  clear hm hbk
  by_cases hbig : (1048576 : Int) < ((bkHds s + bkIts t : Nat) : Int)
  · rw [dec_neg hbig] at Cz
    clear hbig
    go_enter Tryz.func8, Tryz.ntmps8
    go_wp2_with (go_at_call 38; refine Cz.mono ?_; rintro e w1 ⟨rfl, he1⟩)
    go_ret
    exact ⟨rfl, e0.trans he1⟩
  rw [dec_pos hbig] at Cz
  have HPl : Hid (p.size < lim) := Lib.hid (by unfold lim; omega)
  have hd0 : ¬ (1048576 : Int) - ((bkHds s + bkIts t : Nat) : Int) < 0 := by omega
  have Hbs : Hid (bkHds s ≤ 1048576) := Lib.hid (by omega)
  have Hbt : Hid (bkIts t ≤ 1048576) := Lib.hid (by omega)
  generalize (1048576 : Int) - ((bkHds s + bkIts t : Nat) : Int) = D at *
  clear hbig
  go_enter Tryz.func8, Tryz.ntmps8
  go_wp2_with (go_at_call 38; refine Cz.mono ?_; rintro e w1 ⟨rfl, he1⟩; have q0 := d0 w1 he1; have q1 := d1 w1 he1)
  have E1 := Lib.hid (e0.trans he1)
  clear Cz hF
  have F0 := fun W (e : Ext w1 W) => d0 W (he1.trans e)
  have F1 := fun W (e : Ext w1 W) => d1 W (he1.trans e)
  clear d0 d1 he1 e0
  -- the reference's answer
  refine (toVolume_c w1 (HS.out.ext E1.out) (HT.out.ext E1.out) Hbs.out Hbt.out).mono ?_
  rintro e w2 ⟨r2, rfl, hV2, he2⟩
  obtain ⟨p1, p2, rfl, hH2, hI2⟩ := hV2.plain
  have Cs := specVolumeDir_c (p := p) w2 hH2 hI2 HPl.out
  clear hV2 hH2 hI2 q0 q1
  go_wp2_with fail
  refine Cs.mono ?_
  rintro e w3 ⟨r3, rfl, ⟨u3, u4, rfl, hC3, hC4⟩, he3⟩
  have hlo := volPut_len (s := s) (t := t) (p := p)
  generalize hOO : volPut s t (dirIt p) = O at *
  have HOO := Lib.hid hOO; clear hOO
  have hC3' := hC3.isHds hlo
  clear hC3
  generalize hbb : O.isSome = bb at *
  have Hbb := Lib.hid hbb; clear hbb
  generalize hOS : O.elim [] (·.1) = OS at *
  have HOS := Lib.hid hOS; clear hOS
  generalize hOT : O.elim [] (·.2) = OT at *
  have HOT := Lib.hid hOT; clear hOT
  have e13 := he2.trans he3
  have E3' := Lib.hid (E1.out.trans e13)
  have HC := Lib.hid hC3'; have HCt := Lib.hid hC4
  obtain ⟨A7, c7, rfl, -⟩ := hC3'
  obtain ⟨A8, c8, rfl, -⟩ := hC4
  have e34 : Ext w3 (w3.alloc (.cells #[.slice A7 OS.length c7, .slice A8 OT.length c8] 66)) := (Ext.refl w3).alloc _
  have hb6 := Blk.new w3 66 #[.slice A7 OS.length c7, .slice A8 OT.length c8]
  have q0 := F0 _ (e13.trans e34); have q1 := F1 _ (e13.trans e34)
  generalize hw3' : w3.alloc (.cells #[.slice A7 OS.length c7, .slice A8 OT.length c8] 66) = w3' at *
  have hsz3 : w3'.heap.size = w3.heap.size + 1 := by rw [← hw3']; simp
  have E3 := Lib.hid (E3'.out.trans e34)
  have G0 := fun W (e : Ext w3' W) => F0 W ((e13.trans e34).trans e)
  have G1 := fun W (e : Ext w3' W) => F1 W ((e13.trans e34).trans e)
  have K0 := fun W (e : Ext w3' W) => hb6.at_ (i := 0) (u := .slice A7 OS.length c7) rfl W e
  have K1 := fun W (e : Ext w3' W) => hb6.at_ (i := 1) (u := .slice A8 OT.length c8) rfl W e
  have CW : Hid (∀ (B B' : Nat) W a1 a2, Ext w3' W → Hds B W a1 OS → Its B' W a2 OT → Calls Tryz.prog 42 #[.agg #[a1, a2], .agg #[.slice A7 OS.length c7, .slice A8 OT.length c8]] W (Ret (.bool true) W)) := Lib.hid fun B B' W a1 a2 e h1 h2 =>
    eqVolume_same W h1 h2 (HC.out.ext (e34.trans e)) (HCt.out.ext (e34.trans e))
  clear Cs F0 F1 he2 he3 e13 e34 hb6
  -- the program's argument
  go_wp2_with fail
  (try rw [hw3'])
  clear hw3'
  refine (toVolume_c w3' (HS.out.ext E3.out) (HT.out.ext E3.out) Hbs.out Hbt.out).mono ?_
  rintro e w4 ⟨r4, rfl, ⟨x1, x2, lh, li, m, rfl, hlh, hHU, hSp, hft, hli, hIU, hSpi, hmle⟩, he4⟩
  have HU4 := Lib.hid hHU; have IU4 := Lib.hid hIU; have HSp := Lib.hid hSp; have HSpi := Lib.hid hSpi; have Hft := Lib.hid hft
  have Hsz34 := Lib.hid he4.size
  have HFoot : Hid (∀ b, FootHd x1 lh b ∨ FootIt x2 li b → w3'.heap.size ≤ b ∧ b < w4.heap.size) := Lib.hid fun b hb => by
    rcases hb with hb | hb
    · exact hHU.foot hb
    · have := hIU.foot hb; omega
  have hcost : Hid (cHds (lh.map Prod.fst) ≤ 100000000000000 ∧ cIts (li.map Prod.fst) ≤ 100000000000000) := Lib.hid ⟨hHU.cost, hIU.cost'⟩
  have hH4 : Hds 0 w4 x1 s := by have := hHU.plain; rw [hlh] at this; exact this.keep (Nat.zero_le _) (fun _ _ _ => rfl)
  have hI4 : Its 0 w4 x2 t := by have := hIU.its; rw [hli] at this; exact this.keep (Nat.zero_le _) (fun _ _ _ => rfl)
  have HH4 := Lib.hid hH4; have HI4 := Lib.hid hI4
  clear hHU hIU hSp hSpi hft hlh hli hmle
  obtain ⟨Ax, cx, rfl, -⟩ := hH4
  obtain ⟨Ay, cy, rfl, -⟩ := hI4
  have e5 : Ext w3' (w4.alloc (.cells #[.slice Ax s.length cx, .slice Ay t.length cy] 66)) := he4.alloc _
  have e45 : Ext w4 (w4.alloc (.cells #[.slice Ax s.length cx, .slice Ay t.length cy] 66)) := (Ext.refl w4).alloc _
  have hbx := Blk.new w4 66 #[.slice Ax s.length cx, .slice Ay t.length cy]
  have X0 := fun W (e : Ext _ W) => hbx.at_ (i := 0) (u := .slice Ax s.length cx) rfl W e
  have X1 := fun W (e : Ext _ W) => hbx.at_ (i := 1) (u := .slice Ay t.length cy) rfl W e
  have Cv := VolumeDir_c (p := p) _ (HH4.out.ext e45) (HI4.out.ext e45) HPl.out (HM.out.ext (E3.out.trans e5))
  clear hbx q0 q1
  go_wp2_with fail
  refine Cv.mono ?_
  rintro e w5 ⟨r5, rfl, ⟨vv, rfl, hV5⟩, he5⟩
  rw [HOO.out] at hV5 ⊢
  rw [HOS.out, HOT.out] at hV5
  rw [Hbb.out]
  simp only [World.size_alloc] at hV5
  obtain ⟨g1, g2, lh2, li2, m2, rfl, hlh2, hHU2, hSp2, hft2, hli2, hIU2, hSpi2, hmle2⟩ := hV5
  have e35 := e5.trans he5
  have HU5 := Lib.hid hHU2; have IU5 := Lib.hid hIU2; have HSp2 := Lib.hid hSp2; have HSpi2 := Lib.hid hSpi2; have Hft2 := Lib.hid hft2; have Hlh2 := Lib.hid hlh2; have Hli2 := Lib.hid hli2; have Hmle2 := Lib.hid hmle2
  have HFoot2 : Hid (∀ b, FootHd g1 lh2 b ∨ FootIt g2 li2 b → w4.heap.size + 1 ≤ b ∧ b < w5.heap.size) := Lib.hid fun b hb => by
    rcases hb with hb | hb
    · exact hHU2.foot hb
    · have := hIU2.foot hb; omega
  have hcost2 : Hid (cHds OS ≤ 100000000000000 ∧ cIts OT ≤ 100000000000000) := Lib.hid ⟨by rw [← hlh2]; exact hHU2.cost, by rw [← hli2]; exact hIU2.cost'⟩
  have hH5 : Hds 0 w5 g1 OS := by have := hHU2.plain; rw [hlh2] at this; exact this.keep (Nat.zero_le _) (fun _ _ _ => rfl)
  have hI5 : Its 0 w5 g2 OT := by have := hIU2.its; rw [hli2] at this; exact this.keep (Nat.zero_le _) (fun _ _ _ => rfl)
  have HH9 := Lib.hid hH5; have HI9 := Lib.hid hI5
  obtain ⟨Ag, cg, rfl, -⟩ := hH5
  obtain ⟨Ah, ch, rfl, -⟩ := hI5
  have e5b : Ext w5 (w5.alloc (.cells #[.slice Ag OS.length cg, .slice Ah OT.length ch] 66)) := (Ext.refl w5).alloc _
  have hb9 := Blk.new w5 66 #[.slice Ag OS.length cg, .slice Ah OT.length ch]
  have e5a := he5.trans e5b
  have e35b := e35.trans e5b
  have q0 := hb9.cell 0; have q1 := hb9.cell 1
  simp at q0 q1
  have k0 := K0 _ e35b; have k1 := K1 _ e35b
  have Cq := CW.out _ _ _ _ _ e35b (HH9.out.ext e5b) (HI9.out.ext e5b)
  have x0 := fun W (e : Ext (w5.alloc (.cells #[.slice Ag OS.length cg, .slice Ah OT.length ch] 66)) W) => X0 W (e5a.trans e)
  have x1 := fun W (e : Ext (w5.alloc (.cells #[.slice Ag OS.length cg, .slice Ah OT.length ch] 66)) W) => X1 W (e5a.trans e)
  have E35 := Lib.hid e35b
  have E45 := Lib.hid (e45.trans e5a)
  have HB9 := Lib.hid hb9
  have E5b := Lib.hid e5b
  have Hsz5 := Lib.hid (show w4.heap.size + 1 ≤ w5.heap.size from by have := he5.size; simpa using this)
  clear Cv X0 X1 he4 he5 e5 e45 e35 e35b e5a e5b hb9 hHU2 hIU2 hSp2 hSpi2 hft2 hlh2 hli2 hmle2
  go_wp2_with (go_at_call 42; refine Cq.mono ?_; rintro e w5' ⟨rfl, he5'⟩)
  clear Cq q0 q1 k0 k1
  have x0' := fun W (e : Ext w5' W) => x0 W (he5'.trans e)
  have x1' := fun W (e : Ext w5' W) => x1 W (he5'.trans e)
  have E5' := Lib.hid (E35.out.trans he5')
  have a0' := fun W (e : Ext w5' W) => G0 W (E5'.out.trans e)
  have a1' := fun W (e : Ext w5' W) => G1 W (E5'.out.trans e)
  have HH5' := Lib.hid (HH4.out.ext (E45.out.trans he5')); have HI5' := Lib.hid (HI4.out.ext (E45.out.trans he5'))
  clear x0 x1 HH4 HI4
  -- the argument is as it was
  refine wp_region_hold (fun W => W.cell? ⟨w4.heap.size, 0, none⟩ = some (.slice Ax s.length cx) ∧ W.cell? ⟨w4.heap.size, 1, none⟩ = some (.slice Ay t.length cy) ∧ W.cell? ⟨w.heap.size, 0, none⟩ = some (.slice A s.length c) ∧ W.cell? ⟨w.heap.size, 1, none⟩ = some (.slice A2 t.length c2)) 3 [(0, true), (1, true), (2, false)] (by kernel_rfl) (by kernel_rfl) ?_ ?_
  · exact ⟨x0' _ (Ext.refl _).drew, x1' _ (Ext.refl _).drew, a0' _ (Ext.refl _).drew, a1' _ (Ext.refl _).drew⟩
  (repeat (first | (apply hw_read (by rfl) (by rfl); (· (intro W hW; (try dsimp only at hW); go_simp; (first | done | rfl | (rw [if_pos] <;> first | omega | rfl)))); (try simp only [Act.put, List.setIfInBounds_toArray, List.set_cons_zero, List.set_cons_succ])) | (refine hw_skip (by rfl) (by rfl) ?_; (try simp only [Act.put, List.setIfInBounds_toArray, List.set_cons_zero, List.set_cons_succ]))))
  refine hw_step (by rfl) ?_
  go_wp2_with (go_at_call 40; refine (toVolume_c _ (HS.out.ext (E3.out.trans E5'.out).drew) (HT.out.ext (E3.out.trans E5'.out).drew) Hbs.out Hbt.out).mono ?_; rintro e w6 ⟨r6, rfl, hV6, he6⟩; obtain ⟨y1, y2, rfl, hH6, hI6⟩ := hV6.plain)
  have e56 : Ext w5' w6 := (Ext.refl w5').drew.trans he6
  have Ce := eqVolume_same w6 (HH5'.out.ext e56) (HI5'.out.ext e56) hH6 hI6
  refine ⟨⟨x0' _ e56, x1' _ e56, a0' _ e56, a1' _ e56⟩, ?_⟩
  clear hV6 hH6 hI6 a0' a1'
  (try (repeat (first | (apply hw_read (by rfl) (by rfl); (· (intro W hW; (try dsimp only at hW); go_simp; (first | done | rfl | (rw [if_pos] <;> first | omega | rfl)))); (try simp only [Act.put, List.setIfInBounds_toArray, List.set_cons_zero, List.set_cons_succ])) | (refine hw_skip (by rfl) (by rfl) ?_; (try simp only [Act.put, List.setIfInBounds_toArray, List.set_cons_zero, List.set_cons_succ])))))
  (refine hw_nil ?_; (try simp only [List.drop_succ_cons, List.drop_zero]))
  go_wp2_with (go_at_call 42; refine Ce.mono ?_; rintro e w7 ⟨rfl, he7⟩)
  refine NoPanic.normal ?_
  (try dsimp only [Exit.then])
  have e57 := he5'.trans (e56.trans he7)
  have E47 := Lib.hid (E45.out.trans e57)
  have E37 := Lib.hid (E35.out.trans e57)
  have E57 := Lib.hid (E5b.out.trans e57)
  have HB7 := Lib.hid (HB9.out.ext e57)
  have X0 := x0' _ (e56.trans he7)
  have X1 := x1' _ (e56.trans he7)
  clear x0' x1' Ce he5' e56 he7 he6 e57 E5' HB9
  -- the argument is marked
  have Cm := markVolume_c w7 (HU4.out.ext E47.out) HSp.out Hft.out (IU4.out.ext E47.out) HSpi.out
  generalize hnx : ((1 : Int) + (cHds (lh.map Prod.fst) : Nat) + (cIts (li.map Prod.fst) : Nat)) = nx at *
  have hnx0 : ¬ nx < 0 := by omega
  clear hnx
  go_wp2_with fail
  refine Cm.mono ?_
  rintro e w8 ⟨rfl, -, hM8⟩
  have M8 : Hid (Mod (fun b => w3'.heap.size ≤ b ∧ b < w4.heap.size) w7 w8) := Lib.hid (hM8.mono HFoot.out)
  have E8 : Hid (Ext w3' w8) := Lib.hid (M8.out.ext E37.out fun b hb => hb.1)
  have kp : ∀ B', w4.heap.size + 1 ≤ B' → Keeps B' w7 w8 := fun B' hB' => M8.out.keeps fun b hb => by omega
  have HU8 := Lib.hid ((HU5.out.ext E57.out).keep (Nat.le_refl _) (kp _ (Nat.le_refl _)))
  have IU8 := Lib.hid ((IU5.out.ext E57.out).keep (Nat.le_refl _) (kp _ Hmle2.out))
  have hb8 := M8.out.blk HB7.out (fun hb => by have := Hsz5.out; omega)
  have z0 := hb8.cell 0; have z1 := hb8.cell 1
  simp at z0 z1
  have k0 := K0 _ E8.out; have k1 := K1 _ E8.out
  have hH8 : Hds (w4.heap.size + 1) w8 (.slice Ag OS.length cg) OS := by have := HU8.out.plain; rw [Hlh2.out] at this; exact this
  have hI8 : Its m2 w8 (.slice Ah OT.length ch) OT := by have := IU8.out.its; rw [Hli2.out] at this; exact this
  have Cq := CW.out _ _ _ _ _ E8.out hH8 hI8
  have HB8 := Lib.hid hb8
  clear hM8 Cm X0 X1 kp hb8 hH8 hI8 HB7
  go_wp2_with (go_at_call 42; refine Cq.mono ?_; rintro e w9 ⟨rfl, he9⟩; have z2 := (HB8.out.ext he9).cell 0; have z3 := (HB8.out.ext he9).cell 1; simp at z2 z3)
  have E9 := Lib.hid (E8.out.trans he9)
  have HB9 := Lib.hid (HB8.out.ext he9)
  -- the answer is marked
  have Cm := markVolumeU_c w9 (HU8.out.ext he9) HSp2.out Hft2.out (IU8.out.ext he9) HSpi2.out
  rw [Hlh2.out, Hli2.out] at Cm
  clear he9 Cq HU8 IU8 z0 z1 k0 k1 HB8 E8
  go_wp2_with fail
  refine Cm.mono ?_
  rintro e w10 ⟨rfl, ⟨hm1, hm2⟩, hM10⟩
  have M10 := hM10.mono HFoot2.out
  have E10 : Hid (Ext w3' w10) := Lib.hid (M10.ext E9.out fun b hb => by have := Hsz34.out; omega)
  have hb10 := M10.blk HB9.out (fun hb => by omega)
  have z0 := hb10.cell 0; have z1 := hb10.cell 1
  simp at z0 z1
  have HM1 := Lib.hid hm1; have HM2 := Lib.hid hm2; have HB10 := Lib.hid hb10
  clear Cm hM10 M10 hm1 hm2 hb10 z2 z3
  generalize hnx2 : ((1 : Int) + (cHds OS : Nat) + (cIts OT : Nat)) = nx2 at *
  have hnx3 : ¬ nx2 < 0 := by omega
  have Hnx2 := Lib.hid hnx2
  have Ch := heldVolume_c w10 HM1.out HM2.out hcost2.out.1 hcost2.out.2 hnx2.symm
  clear hnx2
  go_wp2_with (go_at_call 44; refine Ch.mono ?_; rintro e w11 ⟨rfl, he11⟩; have y0 := G0 _ (E10.out.trans he11); have y1 := G1 _ (E10.out.trans he11))
  -- once more
  have E11 := Lib.hid (E10.out.trans he11)
  have HM11 := Lib.hid (HM1.out.ext he11); have HM21 := Lib.hid (HM2.out.ext he11); have HB11 := Lib.hid (HB10.out.ext he11)
  clear Ch he11 HM1 HM2 HB10 z0 z1
  refine (toVolume_c w11 (HS.out.ext (E3.out.trans E11.out)) (HT.out.ext (E3.out.trans E11.out)) Hbs.out Hbt.out).mono ?_
  rintro e w12 ⟨r12, rfl, hV12, he12⟩
  obtain ⟨y1', y2', rfl, hH12, hI12⟩ := hV12.plain
  have Cv := VolumeDir_c (p := p) w12 hH12 hI12 HPl.out (HM.out.ext (E3.out.trans (E11.out.trans he12)))
  clear hV12 hH12 hI12 y0 y1
  go_wp2_with fail
  refine Cv.mono ?_
  rintro e w13 ⟨r13, rfl, ⟨vv, rfl, hV13⟩, he13⟩
  rw [HOO.out] at hV13 ⊢
  rw [HOS.out, HOT.out] at hV13
  rw [Hbb.out]
  obtain ⟨j1, j2, rfl, hH13, hI13⟩ := hV13.plain
  have HH13 := Lib.hid hH13; have HI13 := Lib.hid hI13
  obtain ⟨Aj, cj, rfl, -⟩ := hH13
  obtain ⟨Ak, ck, rfl, -⟩ := hI13
  have e1213 := he12.trans he13
  have e13b : Ext w13 (w13.alloc (.cells #[.slice Aj OS.length cj, .slice Ak OT.length ck] 66)) := (Ext.refl w13).alloc _
  have hb14 := Blk.new w13 66 #[.slice Aj OS.length cj, .slice Ak OT.length ck]
  have q0 := hb14.cell 0; have q1 := hb14.cell 1
  simp at q0 q1
  have E13 := Lib.hid (E11.out.trans (e1213.trans e13b))
  have k0 := K0 _ E13.out; have k1 := K1 _ E13.out
  have Cq := CW.out _ _ _ _ _ E13.out (HH13.out.ext e13b) (HI13.out.ext e13b)
  have HM14 := Lib.hid (HM11.out.ext (e1213.trans e13b)); have HM24 := Lib.hid (HM21.out.ext (e1213.trans e13b)); have HB14 := Lib.hid (HB11.out.ext (e1213.trans e13b))
  clear Cv he12 he13 hV13 hb14 HM11 HM21 HB11 e1213 e13b
  go_wp2_with (go_at_call 42; refine Cq.mono ?_; rintro e w14 ⟨rfl, he14⟩; have z0 := (HB14.out.ext he14).cell 0; have z1 := (HB14.out.ext he14).cell 1; simp at z0 z1)
  have Ch := heldVolume_c w14 (HM14.out.ext he14) (HM24.out.ext he14) hcost2.out.1 hcost2.out.2 Hnx2.out.symm
  clear Cq q0 q1 k0 k1
  go_wp2_with (go_at_call 44; refine Ch.mono ?_; rintro e w15 ⟨rfl, he15⟩)
  go_ret
  exact ⟨rfl, E3.out.trans ((E13.out.trans he14).trans he15)⟩
end Go.Sf
