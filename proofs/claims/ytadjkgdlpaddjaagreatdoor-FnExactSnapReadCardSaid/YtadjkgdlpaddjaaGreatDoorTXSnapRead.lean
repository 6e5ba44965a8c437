/- The exact law of SnapRead. -/
import Derived.Test.YtadjkgdlpaddjaaGreatDoorX11
import Derived.Test.YtadjkgdlpaddjaaGreatDoorT102
import Derived.Test.YtadjkgdlpaddjaaGreatDoorGL
set_option linter.all false
namespace Go.Sf
open Go Go.RowKit Go.Proofs
set_option maxRecDepth 8000 in
set_option maxHeartbeats 4000000 in
theorem FnExactSnapRead_c {vs vt vn : Value} {s : List Hd} {t : List It} {l : List Sn} {n p : ByteArray} (w : World) (hs : AHds w vs s) (ht : AIts w vt t) (hn : ASns w vn l) (hnn : n.size ≤ maxLen) (hp : p.size ≤ maxLen) (hm : ML w) : Calls Tryz.prog 6 #[.agg #[vs, vt, vn], .string n, .string p] w (Ret (.bool true) w) := by
  unfold maxLen at hp hnn
  have HS := Lib.hid hs; have HT := Lib.hid ht; have HN := Lib.hid hn; have HM := Lib.hid hm
  obtain ⟨A, c, rfl, -⟩ := hs
  obtain ⟨A2, c2, rfl, -⟩ := ht
  obtain ⟨A3, c3, rfl, -⟩ := hn
  have e0 : Ext w (w.alloc (.cells #[.slice A s.length c, .slice A2 t.length c2, .slice A3 l.length c3] 26)) := (Ext.refl w).alloc _
  by_cases hF0 : (1048576 : Int) < (n.size : Int)
  · clear hm
    go_enter Tryz.func6, Tryz.ntmps6
    go_wp2
    go_ret
    exact ⟨rfl, e0⟩
  by_cases hF : (1048576 : Int) < (p.size : Int)
  · clear hm
    go_enter Tryz.func6, Tryz.ntmps6
    go_wp2
    go_ret
    exact ⟨rfl, e0⟩
  have hbk := Blk.new w 26 #[.slice A s.length c, .slice A2 t.length c2, .slice A3 l.length c3]
  have d0 := fun W (e : Ext _ W) => hbk.at_ (i := 0) (u := .slice A s.length c) rfl W e
  have d1 := fun W (e : Ext _ W) => hbk.at_ (i := 1) (u := .slice A2 t.length c2) rfl W e
  have d2 := fun W (e : Ext _ W) => hbk.at_ (i := 2) (u := .slice A3 l.length c3) rfl W e
  have Cz := szDisk_c (left := 1048576) _ (HS.out.ext e0) (HT.out.ext e0) (HN.out.ext e0) (by omega) (by omega)
  clear hm hbk
  by_cases hbig : (1048576 : Int) < ((bkHds s + bkIts t + bkSns l : Nat) : Int)
  · rw [dec_neg hbig] at Cz
    clear hbig
    go_enter Tryz.func6, Tryz.ntmps6
    go_wp2_with (go_at_call 17; refine Cz.mono ?_; rintro e w1 ⟨rfl, he1⟩)
    go_ret
    exact ⟨rfl, e0.trans he1⟩
  rw [dec_pos hbig] at Cz
  have HPl : Hid (p.size < lim) := Lib.hid (by unfold lim; omega)
  have hd0 : ¬ (1048576 : Int) - ((bkHds s + bkIts t + bkSns l : Nat) : Int) < 0 := by omega
  have Hbs : Hid (bkHds s ≤ 1048576) := Lib.hid (by omega)
  have Hbt : Hid (bkIts t ≤ 1048576) := Lib.hid (by omega)
  have Hbn : Hid (bkSns l ≤ 1048576) := Lib.hid (by omega)
  generalize (1048576 : Int) - ((bkHds s + bkIts t + bkSns l : Nat) : Int) = D at *
  clear hbig
  go_enter Tryz.func6, Tryz.ntmps6
  go_wp2_with (go_at_call 17; refine Cz.mono ?_; rintro e w1 ⟨rfl, he1⟩; have q0 := d0 w1 he1; have q1 := d1 w1 he1; have q2 := d2 w1 he1)
  have E1 := Lib.hid (e0.trans he1)
  clear Cz hF hF0
  have F0 := fun W (e : Ext w1 W) => d0 W (he1.trans e)
  have F1 := fun W (e : Ext w1 W) => d1 W (he1.trans e)
  have F2 := fun W (e : Ext w1 W) => d2 W (he1.trans e)
  clear d0 d1 d2 he1 e0
  -- the reference's answer
  refine (toDisk_c w1 (HS.out.ext E1.out) (HT.out.ext E1.out) (HN.out.ext E1.out) Hbs.out Hbt.out Hbn.out).mono ?_
  rintro e w2 ⟨r2, rfl, hV2, he2⟩
  obtain ⟨p1, p2, p3, rfl, hH2, hI2, hN2⟩ := hV2.plain
  have Cs := specSnapRead_c n p w2 hH2 hI2 hN2
  clear hV2 hH2 hI2 hN2 q0 q1 q2
  go_wp2_with fail
  refine Cs.mono ?_
  rintro e w3 ⟨r3, rfl, ⟨u3, rfl, hC3⟩, he3⟩
  have e13 := he2.trans he3
  have E3 := Lib.hid (E1.out.trans e13)
  have q0 := F0 w3 e13; have q1 := F1 w3 e13; have q2 := F2 w3 e13
  have G0 := fun W (e : Ext w3 W) => F0 W (e13.trans e)
  have G1 := fun W (e : Ext w3 W) => F1 W (e13.trans e)
  have G2 := fun W (e : Ext w3 W) => F2 W (e13.trans e)
  have HC := Lib.hid hC3
  clear Cs F0 F1 F2 he2 he3 e13 hC3
  generalize hbb : (readSn s t l n p).isSome = bb at *
  have Hbb := Lib.hid hbb; clear hbb
  generalize hLL : (readSn s t l n p).getD [] = L at *
  have HLL := Lib.hid hLL; clear hLL
  have CW : Hid (∀ (B : Nat) W g, Ext w3 W → Ints B W g L → Calls Tryz.prog 34 #[g, u3] W (Ret (.bool true) W)) := Lib.hid fun B W g e hg => by
    have := laws_eqIntS_c W hg (HC.out.ext e)
    rwa [show eqb L L = true from eqb_true.2 rfl] at this
  -- the program's argument
  go_wp2_with fail
  refine (toDisk_c w3 (HS.out.ext E3.out) (HT.out.ext E3.out) (HN.out.ext E3.out) Hbs.out Hbt.out Hbn.out).mono ?_
  rintro e w4 ⟨r4, rfl, ⟨x1, x2, x3, lh, li, lq, m, m2, rfl, hlh, hHU, hSp, hft, hli, hIU, hSpi, hft2, hlq, hNU, hmle, hmm⟩, he4⟩
  have HU4 := Lib.hid hHU; have IU4 := Lib.hid hIU; have HSp := Lib.hid hSp; have HSpi := Lib.hid hSpi; have Hft := Lib.hid hft; have NU4 := Lib.hid hNU; have Hft2 := Lib.hid hft2; have Hmm := Lib.hid hmm
  have Hbq : Hid (bkSns (lq.map Prod.fst) ≤ 1048576) := Lib.hid (by rw [hlq]; exact Hbn.out)
  have Hsz34 := Lib.hid he4.size
  have HFoot : Hid (∀ b, FootDk x1 x2 x3 lh li lq b → w3.heap.size ≤ b ∧ b < w4.heap.size) := Lib.hid fun b hb => by
    rcases hb with hb | hb | hb
    · exact hHU.foot hb
    · have := hIU.foot hb; omega
    · have := hNU.foot hb; omega
  have hH4 : Hds 0 w4 x1 s := by have := hHU.plain; rw [hlh] at this; exact this.keep (Nat.zero_le _) (fun _ _ _ => rfl)
  have hI4 : Its 0 w4 x2 t := by have := hIU.its; rw [hli] at this; exact this.keep (Nat.zero_le _) (fun _ _ _ => rfl)
  have hN4 : Sns 0 w4 x3 l := by have := hNU.plain; rwa [hlq] at this
  have HH4 := Lib.hid hH4; have HI4 := Lib.hid hI4; have HN4 := Lib.hid hN4
  clear hHU hIU hNU hSp hSpi hft hft2 hlh hli hlq hmle hmm
  obtain ⟨Ax, cx, rfl, -⟩ := hH4
  obtain ⟨Ay, cy, rfl, -⟩ := hI4
  obtain ⟨Au, cu, rfl, -⟩ := hN4
  have e5 : Ext w3 (w4.alloc (.cells #[.slice Ax s.length cx, .slice Ay t.length cy, .slice Au l.length cu] 33)) := he4.alloc _
  have e45 : Ext w4 (w4.alloc (.cells #[.slice Ax s.length cx, .slice Ay t.length cy, .slice Au l.length cu] 33)) := (Ext.refl w4).alloc _
  have hbx := Blk.new w4 33 #[.slice Ax s.length cx, .slice Ay t.length cy, .slice Au l.length cu]
  have X0 := fun W (e : Ext _ W) => hbx.at_ (i := 0) (u := .slice Ax s.length cx) rfl W e
  have X1 := fun W (e : Ext _ W) => hbx.at_ (i := 1) (u := .slice Ay t.length cy) rfl W e
  have X2 := fun W (e : Ext _ W) => hbx.at_ (i := 2) (u := .slice Au l.length cu) rfl W e
  have Cv := SnapRead_c n p _ (HH4.out.ext e45) (HI4.out.ext e45) (HN4.out.ext e45) HPl.out (HM.out.ext (E3.out.trans e5))
  clear hbx q0 q1 q2
  go_wp2_with fail
  refine Cv.mono ?_
  rintro e w5 ⟨r5, rfl, ⟨g, rfl, hg5⟩, he5⟩
  rw [HLL.out] at hg5
  rw [Hbb.out]
  simp only [World.size_alloc] at hg5
  have e35 := e5.trans he5
  have Cq := CW.out _ w5 g e35 hg5
  have Hg5 := Lib.hid hg5
  obtain ⟨Ag, cg, rfl, -⟩ := hg5
  have HH5 := Lib.hid (HH4.out.ext (e45.trans he5)); have HI5 := Lib.hid (HI4.out.ext (e45.trans he5)); have HN5 := Lib.hid (HN4.out.ext (e45.trans he5))
  have e4_5 := Lib.hid (e45.trans he5)
  have x0 := fun W (e : Ext w5 W) => X0 W (he5.trans e)
  have x1 := fun W (e : Ext w5 W) => X1 W (he5.trans e)
  have x2 := fun W (e : Ext w5 W) => X2 W (he5.trans e)
  have a0 := fun W (e : Ext w5 W) => G0 W (e35.trans e)
  have a1 := fun W (e : Ext w5 W) => G1 W (e35.trans e)
  have a2 := fun W (e : Ext w5 W) => G2 W (e35.trans e)
  have E35 := Lib.hid e35
  clear Cv X0 X1 X2 he4 he5 e5 e45 e35 HH4 HI4 HN4
  go_wp2_with fail
  refine Cq.mono ?_
  rintro e w5' ⟨rfl, he5'⟩
  clear Cq
  go_wp2
  have HH5' := Lib.hid (HH5.out.ext he5'); have HI5' := Lib.hid (HI5.out.ext he5'); have HN5' := Lib.hid (HN5.out.ext he5')
  have x0' := fun W (e : Ext w5' W) => x0 W (he5'.trans e)
  have x1' := fun W (e : Ext w5' W) => x1 W (he5'.trans e)
  have x2' := fun W (e : Ext w5' W) => x2 W (he5'.trans e)
  have a0' := fun W (e : Ext w5' W) => a0 W (he5'.trans e)
  have a1' := fun W (e : Ext w5' W) => a1 W (he5'.trans e)
  have a2' := fun W (e : Ext w5' W) => a2 W (he5'.trans e)
  have E5' := Lib.hid (E35.out.trans he5')
  clear x0 x1 x2 a0 a1 a2 HH5 HI5 HN5
  -- the argument is as it was
  refine wp_region_hold (fun W => (W.cell? ⟨w4.heap.size, 0, none⟩ = some (.slice Ax s.length cx) ∧ W.cell? ⟨w4.heap.size, 1, none⟩ = some (.slice Ay t.length cy) ∧ W.cell? ⟨w4.heap.size, 2, none⟩ = some (.slice Au l.length cu)) ∧ W.cell? ⟨w.heap.size, 0, none⟩ = some (.slice A s.length c) ∧ W.cell? ⟨w.heap.size, 1, none⟩ = some (.slice A2 t.length c2) ∧ W.cell? ⟨w.heap.size, 2, none⟩ = some (.slice A3 l.length c3)) 3 [(0, true), (1, true), (2, false)] (by kernel_rfl) (by kernel_rfl) ?_ ?_
  · exact ⟨⟨x0' _ (Ext.refl _).drew, x1' _ (Ext.refl _).drew, x2' _ (Ext.refl _).drew⟩, a0' _ (Ext.refl _).drew, a1' _ (Ext.refl _).drew, a2' _ (Ext.refl _).drew⟩
  (repeat (first | (apply hw_read (by rfl) (by rfl); (· (intro W hW; (try dsimp only at hW); go_simp; (first | done | rfl | (rw [if_pos] <;> first | omega | rfl)))); (try simp only [Act.put, List.setIfInBounds_toArray, List.set_cons_zero, List.set_cons_succ])) | (refine hw_skip (by rfl) (by rfl) ?_; (try simp only [Act.put, List.setIfInBounds_toArray, List.set_cons_zero, List.set_cons_succ]))))
  refine hw_step (by rfl) ?_
  go_wp2_with (go_at_call 19; refine (toDisk_c _ (HS.out.ext (E3.out.trans E5'.out).drew) (HT.out.ext (E3.out.trans E5'.out).drew) (HN.out.ext (E3.out.trans E5'.out).drew) Hbs.out Hbt.out Hbn.out).mono ?_; rintro e w6 ⟨r6, rfl, hV6, he6⟩; obtain ⟨y1, y2, y3, rfl, hH6, hI6, hN6⟩ := hV6.plain)
  have e56 : Ext w5' w6 := (Ext.refl w5').drew.trans he6
  have Ce := eqDisk_same w6 (HH5'.out.ext e56) (HI5'.out.ext e56) (HN5'.out.ext e56) hH6 hI6 hN6
  refine ⟨⟨⟨x0' _ e56, x1' _ e56, x2' _ e56⟩, a0' _ e56, a1' _ e56, a2' _ e56⟩, ?_⟩
  clear hV6 hH6 hI6 hN6 a0' a1' a2'
  (try (repeat (first | (apply hw_read (by rfl) (by rfl); (· (intro W hW; (try dsimp only at hW); go_simp; (first | done | rfl | (rw [if_pos] <;> first | omega | rfl)))); (try simp only [Act.put, List.setIfInBounds_toArray, List.set_cons_zero, List.set_cons_succ])) | (refine hw_skip (by rfl) (by rfl) ?_; (try simp only [Act.put, List.setIfInBounds_toArray, List.set_cons_zero, List.set_cons_succ])))))
  (refine hw_nil ?_; (try simp only [List.drop_succ_cons, List.drop_zero]))
  go_wp2_with (go_at_call 21; refine Ce.mono ?_; rintro e w7 ⟨rfl, he7⟩)
  refine NoPanic.normal ?_
  (try dsimp only [Exit.then])
  have E47 := Lib.hid (e4_5.out.trans (he5'.trans (e56.trans he7)))
  have E37 := Lib.hid (E5'.out.trans (e56.trans he7))
  have Hg7 := Lib.hid (Hg5.out.ext (he5'.trans (e56.trans he7)))
  have X0 := x0' _ (e56.trans he7)
  have X1 := x1' _ (e56.trans he7)
  have X2 := x2' _ (e56.trans he7)
  clear x0' x1' x2' Ce he5' e56 he7 he6 E5'
  -- the argument is marked
  have Cm := markDisk_c w7 (HU4.out.ext E47.out) HSp.out Hft.out (IU4.out.ext E47.out) HSpi.out Hft2.out (NU4.out.ext E47.out) Hmm.out Hbq.out
  generalize hnx : ((1 : Int) + (cHds (lh.map Prod.fst) : Nat) + (cIts (li.map Prod.fst) : Nat) + (cSns (lq.map Prod.fst) : Nat)) = nx at *
  have hnx0 : ¬ nx < 0 := by omega
  clear hnx
  go_wp2_with fail
  refine Cm.mono ?_
  rintro e w8 ⟨rfl, -, hM8⟩
  have M8 : Hid (Mod (fun b => w3.heap.size ≤ b ∧ b < w4.heap.size) w7 w8) := Lib.hid (hM8.mono HFoot.out)
  have E8 : Hid (Ext w3 w8) := Lib.hid (M8.out.ext E37.out fun b hb => hb.1)
  have Hg8 : Hid (Ints (w4.heap.size + 1) w8 (.slice Ag L.length cg) L) := Lib.hid (Hg7.out.keep (Nat.le_refl _) (M8.out.keeps fun b hb => by omega))
  have Cq := CW.out _ _ _ E8.out Hg8.out
  clear hM8 M8 Cm X0 X1 X2
  go_wp2_with (go_at_call 34; refine Cq.mono ?_; rintro e w9 ⟨rfl, he9⟩)
  have E9 := Lib.hid (E8.out.trans he9)
  have Hg9 := Lib.hid (Hg8.out.ext he9)
  clear he9 Cq Hg8 E8 Hg7
  -- the answer is marked
  have hll : Hid (L.length ≤ 4194304) := Lib.hid (by have := Hg9.out.len; unfold lim at this; exact this)
  have Cm := markIntS_c (k := 1) w9 Hg9.out (by omega) (by omega)
  go_wp2_with fail
  refine Cm.mono ?_
  rintro e w10 ⟨rfl, hg10, hM10⟩
  have E10 : Hid (Ext w3 w10) := Lib.hid (hM10.ext E9.out fun b hb => by have := (Hg9.out.own hb).1; have := Hsz34.out; omega)
  have Hg10 := Lib.hid hg10
  have hll := hll.out
  generalize hnl : L.length = nl at *
  clear hM10 hg10 Cm hnl
  have Ch := heldIntS_c (k := 1) w10 Hg10.out (by omega) (by omega)
  go_wp2_with (go_at_call 37; refine Ch.mono ?_; rintro e w11 ⟨rfl, he11⟩; have z0 := G0 _ (E10.out.trans he11); have z1 := G1 _ (E10.out.trans he11); have z2 := G2 _ (E10.out.trans he11))
  -- once more
  have E11 := Lib.hid (E10.out.trans he11)
  have Hg11 := Lib.hid (Hg10.out.ext he11)
  clear Ch he11 Hg10 Hg9
  refine (toDisk_c w11 (HS.out.ext (E3.out.trans E11.out)) (HT.out.ext (E3.out.trans E11.out)) (HN.out.ext (E3.out.trans E11.out)) Hbs.out Hbt.out Hbn.out).mono ?_
  rintro e w12 ⟨r12, rfl, hV12, he12⟩
  obtain ⟨y1, y2, y3, rfl, hH12, hI12, hN12⟩ := hV12.plain
  have Cv := SnapRead_c n p w12 hH12 hI12 hN12 HPl.out (HM.out.ext (E3.out.trans (E11.out.trans he12)))
  clear hV12 hH12 hI12 hN12 z0 z1 z2
  go_wp2_with fail
  refine Cv.mono ?_
  rintro e w13 ⟨r13, rfl, ⟨g13, rfl, hg13⟩, he13⟩
  rw [HLL.out] at hg13
  rw [Hbb.out]
  have E13 := Lib.hid (E11.out.trans (he12.trans he13))
  have Cq := CW.out _ _ _ E13.out hg13
  have Hg13 := Lib.hid (Hg11.out.ext (he12.trans he13))
  clear Cv he12 he13 hg13
  go_wp2_with fail
  refine Cq.mono ?_
  rintro e w14 ⟨rfl, he14⟩
  have Ch := heldIntS_c (k := 1) w14 (Hg13.out.ext he14) (by omega) (by omega)
  clear Cq
  go_wp2_with (go_at_call 37; refine Ch.mono ?_; rintro e w15 ⟨rfl, he15⟩)
  go_ret
  exact ⟨rfl, E3.out.trans ((E13.out.trans he14).trans he15)⟩
end Go.Sf
