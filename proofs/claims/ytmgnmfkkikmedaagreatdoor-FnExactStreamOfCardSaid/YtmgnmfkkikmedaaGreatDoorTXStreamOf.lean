/- The exact law of StreamOf. -/
import Derived.Test.YtmgnmfkkikmedaaGreatDoorX11
import Derived.Test.YtmgnmfkkikmedaaGreatDoorGL
import Derived.Test.YtmgnmfkkikmedaaGreatDoorGX
import Derived.Test.YtmgnmfkkikmedaaGreatDoorGS
set_option linter.all false
namespace Go.Sf
open Go Go.RowKit Go.Proofs
theorem PtsU.cost {B : Nat} {w : World} {v : Value} {l : List (Pt × Value)} (h : PtsU B w v l) : cPts (l.map Prod.fst) ≤ 100000000000000 := by
  obtain ⟨A, c, -, -, -, hl, he⟩ := h
  unfold cPts
  have := sum_le' wPt 5000000 (l.map Prod.fst) fun x hx => by
    obtain ⟨q, hq, rfl⟩ := List.mem_map.1 hx
    obtain ⟨k, hk⟩ := List.mem_iff_getElem?.1 hq
    obtain ⟨_, _, _, -, -, -, -, -, -, -, -, -, hi⟩ := he k q hk
    have := hi.len
    unfold lim at this; unfold wPt; omega
  rw [List.length_map] at this
  unfold lim at hl
  have h2 : l.length * 5000000 ≤ 4194304 * 5000000 := Nat.mul_le_mul_right _ hl
  omega
set_option maxRecDepth 8000 in
set_option maxHeartbeats 4000000 in
theorem FnExactStreamOf_c {vs vt vn : Value} {s : List Hd} {t : List It} {l : List Sn} {f g : ByteArray} (w : World) (hs : AHds w vs s) (ht : AIts w vt t) (hn : ASns w vn l) (hp : f.size ≤ maxLen) (hq : g.size ≤ maxLen) (hm : ML w) : Calls Tryz.prog 3 #[.agg #[vs, vt, vn], .string f, .string g] w (Ret (.bool true) w) := by
  unfold maxLen at hp hq
  have HS := Lib.hid hs; have HT := Lib.hid ht; have HN := Lib.hid hn; have HM := Lib.hid hm
  obtain ⟨A, c, rfl, -⟩ := hs
  obtain ⟨A2, c2, rfl, -⟩ := ht
  obtain ⟨A3, c3, rfl, -⟩ := hn
  have e0 : Ext w (w.alloc (.cells #[.slice A s.length c, .slice A2 t.length c2, .slice A3 l.length c3] 26)) := (Ext.refl w).alloc _
  by_cases hFp : (1048576 : Int) < (f.size : Int)
  · clear hm
    go_enter Tryz.func3, Tryz.ntmps3
    go_wp2
    go_ret
    exact ⟨rfl, e0⟩
  by_cases hFg : (1048576 : Int) < (g.size : Int)
  · clear hm
    go_enter Tryz.func3, Tryz.ntmps3
    go_wp2
    go_ret
    exact ⟨rfl, e0⟩
  have hbk := Blk.new w 26 #[.slice A s.length c, .slice A2 t.length c2, .slice A3 l.length c3]
  have d0 := fun W (e : Ext _ W) => hbk.at_ (i := 0) (u := .slice A s.length c) rfl W e
  have d1 := fun W (e : Ext _ W) => hbk.at_ (i := 1) (u := .slice A2 t.length c2) rfl W e
  have d2 := fun W (e : Ext _ W) => hbk.at_ (i := 2) (u := .slice A3 l.length c3) rfl W e
  have Cz := szDisk_c (left := 1048576) _ (HS.out.ext e0) (HT.out.ext e0) (HN.out.ext e0) (by omega) (by omega)
  clear hm hbk
  by_cases hbig : (1048576 : Int) < ((bkHds s + bkIts t + bkSns l : Nat) : Int)
  · rw [dec_neg hbig] at Cz
    clear hbig
    go_enter Tryz.func3, Tryz.ntmps3
    go_wp2_with (go_at_call 13; refine Cz.mono ?_; rintro e w1 ⟨rfl, he1⟩)
    go_ret
    exact ⟨rfl, e0.trans he1⟩
  rw [dec_pos hbig] at Cz
  have hd0 : ¬ (1048576 : Int) - ((bkHds s + bkIts t + bkSns l : Nat) : Int) < 0 := by omega
  have Hbs : Hid (bkHds s ≤ 1048576) := Lib.hid (by omega)
  have Hbt : Hid (bkIts t ≤ 1048576) := Lib.hid (by omega)
  have Hbn : Hid (bkSns l ≤ 1048576) := Lib.hid (by omega)
  generalize (1048576 : Int) - ((bkHds s + bkIts t + bkSns l : Nat) : Int) = D at *
  clear hbig
  go_enter Tryz.func3, Tryz.ntmps3
  go_wp2_with (go_at_call 13; refine Cz.mono ?_; rintro e w1 ⟨rfl, he1⟩; have q0 := d0 w1 he1; have q1 := d1 w1 he1; have q2 := d2 w1 he1)
  have E1 := Lib.hid (e0.trans he1)
  have F0 := fun W (e : Ext w1 W) => d0 W (he1.trans e)
  have F1 := fun W (e : Ext w1 W) => d1 W (he1.trans e)
  have F2 := fun W (e : Ext w1 W) => d2 W (he1.trans e)
  clear Cz d0 d1 d2 he1 e0 hFp hFg
  -- the reference's answer
  refine (toDisk_c w1 (HS.out.ext E1.out) (HT.out.ext E1.out) (HN.out.ext E1.out) Hbs.out Hbt.out Hbn.out).mono ?_
  rintro e w2 ⟨r2, rfl, hV2, he2⟩
  obtain ⟨p1, p2, p3, rfl, hH2, hI2, hN2⟩ := hV2.plain
  have Cs := specStreamOf_c f g w2 hH2 hI2 hN2
  clear hV2 hH2 hI2 hN2 q0 q1 q2
  go_wp2_with fail
  refine Cs.mono ?_
  rintro e w3 ⟨r3, rfl, ⟨u3, rfl, hC3⟩, he3⟩
  have e13 := he2.trans he3
  have HC := Lib.hid hC3
  clear hC3
  generalize hOO : streamOf s t l f g = O at *
  have HOO := Lib.hid hOO; clear hOO
  generalize hbb : O.isSome = bb at *
  have Hbb := Lib.hid hbb; clear hbb
  generalize hLL : O.getD [] = L at *
  have HLL := Lib.hid hLL; clear hLL
  have CW : Hid (∀ (B : Nat) W gg, Ext w3 W → Pts B W gg L → Calls Tryz.prog 17 #[gg, u3] W (Ret (.bool true) W)) := Lib.hid fun B W gg e hg => by
    have := laws_eqPartS_c W hg (HC.out.ext e)
    rwa [show eqb L L = true from eqb_true.2 rfl] at this
  have E3 := Lib.hid (E1.out.trans e13)
  have q0 := F0 w3 e13; have q1 := F1 w3 e13; have q2 := F2 w3 e13
  have G0 := fun W (e : Ext w3 W) => F0 W (e13.trans e)
  have G1 := fun W (e : Ext w3 W) => F1 W (e13.trans e)
  have G2 := fun W (e : Ext w3 W) => F2 W (e13.trans e)
  clear Cs F0 F1 F2 he2 he3 e13
  -- the program's argument
  go_wp2_with fail
  refine (toDisk_c w3 (HS.out.ext E3.out) (HT.out.ext E3.out) (HN.out.ext E3.out) Hbs.out Hbt.out Hbn.out).mono ?_
  rintro e w4 ⟨r4, rfl, ⟨x1, x2, x3, lh, li, lq, m, m2, rfl, hlh, hHU, hSp, hft, hli, hIU, hSpi, hft2, hlq, hNU, hmle, hmm⟩, he4⟩
  have HU4 := Lib.hid hHU; have IU4 := Lib.hid hIU; have HSp := Lib.hid hSp; have HSpi := Lib.hid hSpi; have Hft := Lib.hid hft; have NU4 := Lib.hid hNU; have Hft2 := Lib.hid hft2; have Hmm := Lib.hid hmm
  have Hbq2 : Hid (bkSns (lq.map Prod.fst) ≤ 1048576) := Lib.hid (by rw [hlq]; exact Hbn.out)
  have Hsz34 := Lib.hid he4.size
  have HFoot : Hid (∀ b, FootDk x1 x2 x3 lh li lq b → w3.heap.size ≤ b ∧ b < w4.heap.size) := Lib.hid fun b hb => by
    rcases hb with hb | hb | hb
    · exact hHU.foot hb
    · have := hIU.foot hb; omega
    · have := hNU.foot hb; omega
  have hcost : Hid (cHds (lh.map Prod.fst) ≤ 100000000000000 ∧ cIts (li.map Prod.fst) ≤ 100000000000000 ∧ cSns (lq.map Prod.fst) ≤ 2097152) := Lib.hid ⟨hHU.cost, hIU.cost', by have := cSns_bk (lq.map Prod.fst); have := Hbq2.out; omega⟩
  have hH4 : Hds 0 w4 x1 s := by have := hHU.plain; rw [hlh] at this; exact this.keep (Nat.zero_le _) (fun _ _ _ => rfl)
  have hI4 : Its 0 w4 x2 t := by have := hIU.its; rw [hli] at this; exact this.keep (Nat.zero_le _) (fun _ _ _ => rfl)
  have hN4 : Sns 0 w4 x3 l := by have := hNU.plain; rwa [hlq] at this
  have HH4 := Lib.hid hH4; have HI4 := Lib.hid hI4; have HN4 := Lib.hid hN4
  clear hHU hIU hNU hSp hSpi hft hft2 hlh hli hlq hmle hmm
  obtain ⟨Ax, cx, rfl, -⟩ := hH4
  obtain ⟨Ay, cy, rfl, -⟩ := hI4
  obtain ⟨Au, cu, rfl, -⟩ := hN4
  have e5 : Ext w3 (w4.alloc (.cells #[.slice Ax s.length cx, .slice Ay t.length cy, .slice Au l.length cu] 35)) := he4.alloc _
  have e45 : Ext w4 (w4.alloc (.cells #[.slice Ax s.length cx, .slice Ay t.length cy, .slice Au l.length cu] 35)) := (Ext.refl w4).alloc _
  have hbx := Blk.new w4 35 #[.slice Ax s.length cx, .slice Ay t.length cy, .slice Au l.length cu]
  have X0 := fun W (e : Ext _ W) => hbx.at_ (i := 0) (u := .slice Ax s.length cx) rfl W e
  have X1 := fun W (e : Ext _ W) => hbx.at_ (i := 1) (u := .slice Ay t.length cy) rfl W e
  have X2 := fun W (e : Ext _ W) => hbx.at_ (i := 2) (u := .slice Au l.length cu) rfl W e
  clear hbx q0 q1 q2
  have Cv := StreamOf_c f g _ (HH4.out.ext e45) (HI4.out.ext e45) (HN4.out.ext e45) (HM.out.ext (E3.out.trans e5))
  go_wp2_with fail
  refine Cv.mono ?_
  rintro e w5 ⟨r5, rfl, ⟨gv, lu5, rfl, hlu5, hg5, hsep5⟩, he5⟩
  rw [HOO.out] at hlu5 ⊢
  rw [HLL.out] at hlu5
  rw [Hbb.out]
  rw [World.size_alloc] at hg5
  have Hlu := Lib.hid hlu5; have Hsep := Lib.hid hsep5
  have e35 := e5.trans he5
  have Cq := CW.out _ w5 gv e35 (by have := hg5.plain; rwa [hlu5] at this)
  have Hg5 := Lib.hid hg5
  obtain ⟨Ag, cg, rfl, -⟩ := hg5
  clear hlu5 hsep5
  have HH5 := Lib.hid (HH4.out.ext (e45.trans he5)); have HI5 := Lib.hid (HI4.out.ext (e45.trans he5)); have HN5 := Lib.hid (HN4.out.ext (e45.trans he5))
  have e4_5 := Lib.hid (e45.trans he5)
  have x0 := fun W (e : Ext w5 W) => X0 W (he5.trans e)
  have x1 := fun W (e : Ext w5 W) => X1 W (he5.trans e)
  have x2 := fun W (e : Ext w5 W) => X2 W (he5.trans e)
  have a0 := fun W (e : Ext w5 W) => G0 W (e35.trans e)
  have a1 := fun W (e : Ext w5 W) => G1 W (e35.trans e)
  have a2 := fun W (e : Ext w5 W) => G2 W (e35.trans e)
  have E35 := Lib.hid e35
  clear Cv X0 X1 X2 he4 he5 e5 e45 e35 HH4 HI4 HN4
  go_wp2_with fail
  refine Cq.mono ?_
  rintro e w5' ⟨rfl, he5'⟩
  clear Cq
  go_wp2
  have HH5' := Lib.hid (HH5.out.ext he5'); have HI5' := Lib.hid (HI5.out.ext he5'); have HN5' := Lib.hid (HN5.out.ext he5')
  have x0' := fun W (e : Ext w5' W) => x0 W (he5'.trans e)
  have x1' := fun W (e : Ext w5' W) => x1 W (he5'.trans e)
  have x2' := fun W (e : Ext w5' W) => x2 W (he5'.trans e)
  have a0' := fun W (e : Ext w5' W) => a0 W (he5'.trans e)
  have a1' := fun W (e : Ext w5' W) => a1 W (he5'.trans e)
  have a2' := fun W (e : Ext w5' W) => a2 W (he5'.trans e)
  have E5' := Lib.hid (E35.out.trans he5')
  clear x0 x1 x2 a0 a1 a2 HH5 HI5 HN5
  -- the arguments are as they were
  refine wp_region_hold (fun W => (W.cell? ⟨w4.heap.size, 0, none⟩ = some (.slice Ax s.length cx) ∧ W.cell? ⟨w4.heap.size, 1, none⟩ = some (.slice Ay t.length cy) ∧ W.cell? ⟨w4.heap.size, 2, none⟩ = some (.slice Au l.length cu)) ∧ W.cell? ⟨w.heap.size, 0, none⟩ = some (.slice A s.length c) ∧ W.cell? ⟨w.heap.size, 1, none⟩ = some (.slice A2 t.length c2) ∧ W.cell? ⟨w.heap.size, 2, none⟩ = some (.slice A3 l.length c3)) 3 [(0, true), (1, true), (2, false)] (by kernel_rfl) (by kernel_rfl) ?_ ?_
  · exact ⟨⟨x0' _ (Ext.refl _).drew, x1' _ (Ext.refl _).drew, x2' _ (Ext.refl _).drew⟩, a0' _ (Ext.refl _).drew, a1' _ (Ext.refl _).drew, a2' _ (Ext.refl _).drew⟩
  (repeat (first | (apply hw_read (by rfl) (by rfl); (· (intro W hW; (try dsimp only at hW); go_simp; (first | done | rfl | (rw [if_pos] <;> first | omega | rfl)))); (try simp only [Act.put, List.setIfInBounds_toArray, List.set_cons_zero, List.set_cons_succ])) | (refine hw_skip (by rfl) (by rfl) ?_; (try simp only [Act.put, List.setIfInBounds_toArray, List.set_cons_zero, List.set_cons_succ]))))
  refine hw_step (by rfl) ?_
  go_wp2_with (go_at_call 15; refine (toDisk_c _ (HS.out.ext (E3.out.trans E5'.out).drew) (HT.out.ext (E3.out.trans E5'.out).drew) (HN.out.ext (E3.out.trans E5'.out).drew) Hbs.out Hbt.out Hbn.out).mono ?_; rintro e w6 ⟨r6, rfl, hV6, he6⟩; obtain ⟨y1, y2, y3, rfl, hH6, hI6, hN6⟩ := hV6.plain)
  have e56 : Ext w5' w6 := (Ext.refl w5').drew.trans he6
  have Ce := eqDisk_same w6 (HH5'.out.ext e56) (HI5'.out.ext e56) (HN5'.out.ext e56) hH6 hI6 hN6
  refine ⟨⟨⟨x0' _ e56, x1' _ e56, x2' _ e56⟩, a0' _ e56, a1' _ e56, a2' _ e56⟩, ?_⟩
  clear hV6 hH6 hI6 hN6 a0' a1' a2'
  (try (repeat (first | (apply hw_read (by rfl) (by rfl); (· (intro W hW; (try dsimp only at hW); go_simp; (first | done | rfl | (rw [if_pos] <;> first | omega | rfl)))); (try simp only [Act.put, List.setIfInBounds_toArray, List.set_cons_zero, List.set_cons_succ])) | (refine hw_skip (by rfl) (by rfl) ?_; (try simp only [Act.put, List.setIfInBounds_toArray, List.set_cons_zero, List.set_cons_succ])))))
  (refine hw_nil ?_; (try simp only [List.drop_succ_cons, List.drop_zero]))
  go_wp2_with (go_at_call 18; refine Ce.mono ?_; rintro e w7 ⟨rfl, he7⟩)
  refine NoPanic.normal ?_
  (try dsimp only [Exit.then])
  have e57 := e56.trans he7
  have E37q := Lib.hid (E5'.out.trans e57)
  clear Ce
  have e59 := e57
  have E49 := Lib.hid (e4_5.out.trans (he5'.trans e59))
  have E39 := Lib.hid (E5'.out.trans e59)
  have Hg9 := Lib.hid (Hg5.out.ext (he5'.trans e59))
  have X0 := x0' _ e59; have X1 := x1' _ e59; have X2 := x2' _ e59
  clear x0' x1' x2' he5' e56 he7 he6 e57 e59 E5' E37q
  -- the arguments are marked
  have Cm := markDisk_c w7 (HU4.out.ext E49.out) HSp.out Hft.out (IU4.out.ext E49.out) HSpi.out Hft2.out (NU4.out.ext E49.out) Hmm.out Hbq2.out
  generalize hnx : ((1 : Int) + (cHds (lh.map Prod.fst) : Nat) + (cIts (li.map Prod.fst) : Nat) + (cSns (lq.map Prod.fst) : Nat)) = nx at *
  have hnx1 : 1 ≤ nx ∧ nx ≤ 1152921504606846976 := by have := hcost.out; omega
  obtain ⟨hnx1, hnx2⟩ := hnx1
  clear hnx
  go_wp2_with fail
  refine Cm.mono ?_
  rintro e w10 ⟨rfl, -, hM10⟩
  have M10 : Hid (Mod (fun b => w3.heap.size ≤ b ∧ b < w4.heap.size) w7 w10) := Lib.hid (hM10.mono HFoot.out)
  have E10 : Hid (Ext w3 w10) := Lib.hid (M10.out.ext E39.out fun b hb => hb.1)
  have Hg10 : Hid (PtsU (w4.heap.size + 1) w10 (.slice Ag lu5.length cg) lu5) := Lib.hid (Hg9.out.keep (Nat.le_refl _) (M10.out.keeps fun b hb => by omega))
  clear Cm hM10 M10 X0 X1 X2 Hg9 E39
  have hnq0 : ¬ nx < 0 := by omega
  have E11 := E10; have Hg11 := Hg10
  have Cq := CW.out _ _ _ E11.out (by have := Hg11.out.plain; rwa [Hlu.out] at this)
  clear Hg10 E10
  go_wp2_with (go_at_call 17; refine Cq.mono ?_; rintro e w12 ⟨rfl, he12⟩)
  have E12 := Lib.hid (E11.out.trans he12)
  have Hg12 := Lib.hid (Hg11.out.ext he12)
  clear he12 Cq Hg11 E11
  -- the answer is marked
  have hcp : Hid (cPts L ≤ 100000000000000) := Lib.hid (by rw [← Hlu.out]; exact Hg12.out.cost)
  have Cm := markPtS_c (k := 1) w12 Hg12.out Hsep.out (by omega) (by rw [Hlu.out]; have := hcp.out; omega)
  rw [Hlu.out] at Cm
  go_wp2_with fail
  refine Cm.mono ?_
  rintro e w13 ⟨rfl, hg13, hM13⟩
  have E13 : Hid (Ext w3 w13) := Lib.hid (hM13.ext E12.out fun b hb => by have := (Hg12.out.foot hb).1; have := Hsz34.out; omega)
  have Hg13 : Hid (Pts (w4.heap.size + 1) w13 (.slice Ag lu5.length cg) (mkPts 1 L)) := Lib.hid (by have := hg13.plain; rwa [mkPtsU_fst, Hlu.out] at this)
  have hcp := hcp.out
  clear hM13 hg13 Cm Hg12 E12
  have Ch := heldPtS_c (k := 1) w13 Hg13.out (by omega) (by omega)
  have Chh := fun W (h : Pts (w4.heap.size + 1) W (.slice Ag lu5.length cg) (mkPts 1 L)) => heldPtS_c (k := 1) W h (by omega) (by omega)
  have hnx7 : ¬ (1 : Int) + (cPts L : Nat) < 0 := by omega
  generalize (1 : Int) + (cPts L : Nat) = nq at *
  go_wp2_with (go_at_call 21; refine Ch.mono ?_; rintro e w14 ⟨rfl, he14⟩; have z0 := G0 _ (E13.out.trans he14); have z1 := G1 _ (E13.out.trans he14); have z2 := G2 _ (E13.out.trans he14))
  -- once more
  have E14 := Lib.hid (E13.out.trans he14)
  have Hg14 := Lib.hid (Hg13.out.ext he14)
  clear Ch he14 Hg13 E13
  refine (toDisk_c w14 (HS.out.ext (E3.out.trans E14.out)) (HT.out.ext (E3.out.trans E14.out)) (HN.out.ext (E3.out.trans E14.out)) Hbs.out Hbt.out Hbn.out).mono ?_
  rintro e w15 ⟨r15, rfl, hV15, he15⟩
  obtain ⟨y1, y2, y3, rfl, hH15, hI15, hN15⟩ := hV15.plain
  have HH15 := Lib.hid hH15; have HI15 := Lib.hid hI15; have HN15 := Lib.hid hN15
  clear hV15 hH15 hI15 hN15 z0 z1 z2
  have Cv := StreamOf_c f g w15 HH15.out HI15.out HN15.out (HM.out.ext (E3.out.trans (E14.out.trans he15)))
  go_wp2_with fail
  refine Cv.mono ?_
  rintro e w17 ⟨r17, rfl, ⟨g17, lu17, rfl, hlu17, hg17, -⟩, he17⟩
  rw [HOO.out] at hlu17 ⊢
  rw [HLL.out] at hlu17
  rw [Hbb.out]
  have E17 := Lib.hid (E14.out.trans (he15.trans he17))
  have Cq := CW.out _ _ _ E17.out (by have := hg17.plain; rwa [hlu17] at this)
  have Hg17 := Lib.hid (Hg14.out.ext (he15.trans he17))
  go_wp2_with fail
  refine Cq.mono ?_
  rintro e w18 ⟨rfl, he18⟩
  have Ch := Chh w18 (Hg17.out.ext he18)
  clear Cq
  go_wp2_with (go_at_call 21; refine Ch.mono ?_; rintro e w19 ⟨rfl, he19⟩)
  go_ret
  exact ⟨rfl, E3.out.trans ((E17.out.trans he18).trans he19)⟩
end Go.Sf
