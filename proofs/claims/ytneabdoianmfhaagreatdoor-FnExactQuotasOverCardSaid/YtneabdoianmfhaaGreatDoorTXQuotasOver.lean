/- The exact law of QuotasOver. -/
import Derived.Test.YtneabdoianmfhaaGreatDoorX11
import Derived.Test.YtneabdoianmfhaaGreatDoorX13
import Derived.Test.YtneabdoianmfhaaGreatDoorX12
import Derived.Test.YtneabdoianmfhaaGreatDoorT107
namespace Go.Sf
open Go Go.RowKit Go.Proofs
theorem QtsU.ext {B : Nat} {w w' : World} {v : Value} {l : List Qt} (h : QtsU B w v l) (e : Ext w w') : QtsU B w' v l := let ⟨g, c, cs, h1, h2, h3, h4, h5, h6, h7⟩ := h; ⟨g, c, cs, h1, h2, h3, h4, h5, h6.ext e, h7⟩
theorem QtsU.mod {B : Nat} {S : Nat → Prop} {w w' : World} {v : Value} {l : List Qt} (h : QtsU B w v l) (hm : Mod S w w') (hs : ∀ b, S b → b < B) : QtsU B w' v l :=
  let ⟨g, c, cs, h1, h2, h3, h4, h5, h6, h7⟩ := h; ⟨g, c, cs, h1, h2, h3, h4, h5, hm.blk h6 (fun hb => by have := hs _ hb; omega), h7⟩
set_option maxRecDepth 8000 in
set_option maxHeartbeats 4000000 in
theorem FnExactQuotasOver_c {a : Addr} {vs vt vn vq : Value} {s : List Hd} {t : List It} {l : List Sn} {q : List Qt} (w : World) (hs : AHds w vs s) (ht : AIts w vt t) (hn : ASns w vn l) (hq : AQts w vq q) (hm : ML w) (hE : EB a w) : Calls Tryz.prog 7 #[.agg #[vs, vt, vn], vq] w (Ret (.bool true) w) := by
  have HS := Lib.hid hs; have HT := Lib.hid ht; have HN := Lib.hid hn; have HM := Lib.hid hm; have HQ := Lib.hid hq; have HE := Lib.hid hE
  obtain ⟨A, c, rfl, -⟩ := hs
  obtain ⟨A2, c2, rfl, -⟩ := ht
  obtain ⟨A3, c3, rfl, -⟩ := hn
  obtain ⟨A4, c4, rfl, -⟩ := hq
  have e0 : Ext w (w.alloc (.cells #[.slice A s.length c, .slice A2 t.length c2, .slice A3 l.length c3] 26)) := (Ext.refl w).alloc _
  have hbk := Blk.new w 26 #[.slice A s.length c, .slice A2 t.length c2, .slice A3 l.length c3]
  have d0 := fun W (e : Ext _ W) => hbk.at_ (i := 0) (u := .slice A s.length c) rfl W e
  have d1 := fun W (e : Ext _ W) => hbk.at_ (i := 1) (u := .slice A2 t.length c2) rfl W e
  have d2 := fun W (e : Ext _ W) => hbk.at_ (i := 2) (u := .slice A3 l.length c3) rfl W e
  have Cz := szDisk_c (left := 1048576) _ (HS.out.ext e0) (HT.out.ext e0) (HN.out.ext e0) (by omega) (by omega)
  clear hm hbk hE
  by_cases hbig : (1048576 : Int) < ((bkHds s + bkIts t + bkSns l : Nat) : Int)
  · rw [dec_neg hbig] at Cz
    clear hbig
    go_enter Tryz.func7, Tryz.ntmps7
    go_wp2_with (go_at_call 11; refine Cz.mono ?_; rintro e w1 ⟨rfl, he1⟩)
    go_ret
    exact ⟨rfl, e0.trans he1⟩
  rw [dec_pos hbig] at Cz
  have hd0 : ¬ (1048576 : Int) - ((bkHds s + bkIts t + bkSns l : Nat) : Int) < 0 := by omega
  have Hbs : Hid (bkHds s ≤ 1048576) := Lib.hid (by omega)
  have Hbt : Hid (bkIts t ≤ 1048576) := Lib.hid (by omega)
  have Hbn : Hid (bkSns l ≤ 1048576) := Lib.hid (by omega)
  have Cy := fun W (e : Ext w W) => szQuotaS_c (left := (1048576 : Int) - ((bkHds s + bkIts t + bkSns l : Nat) : Int)) W (HQ.out.ext e) (by omega) (by omega)
  by_cases hbig2 : (1048576 : Int) - ((bkHds s + bkIts t + bkSns l : Nat) : Int) < ((bkQts q : Nat) : Int)
  · rw [dec_neg hbig2] at Cy
    generalize (1048576 : Int) - ((bkHds s + bkIts t + bkSns l : Nat) : Int) = D at *
    clear hbig hbig2
    go_enter Tryz.func7, Tryz.ntmps7
    go_wp2_with (first | (go_at_call 11; refine Cz.mono ?_; rintro e w1 ⟨rfl, he1⟩) | (go_at_call 29; refine (Cy _ (e0.trans he1)).mono ?_; rintro e w2 ⟨rfl, he2⟩))
    go_ret
    exact ⟨rfl, e0.trans (he1.trans he2)⟩
  rw [dec_pos hbig2] at Cy
  have hd1 : ¬ (1048576 : Int) - ((bkHds s + bkIts t + bkSns l : Nat) : Int) - ((bkQts q : Nat) : Int) < 0 := by omega
  have Hbq : Hid (bkQts q ≤ 1048576) := Lib.hid (by omega)
  generalize (1048576 : Int) - ((bkHds s + bkIts t + bkSns l : Nat) : Int) - ((bkQts q : Nat) : Int) = DD at *
  generalize (1048576 : Int) - ((bkHds s + bkIts t + bkSns l : Nat) : Int) = D at *
  clear hbig hbig2
  go_enter Tryz.func7, Tryz.ntmps7
  go_wp2_with (first | (go_at_call 11; refine Cz.mono ?_; rintro e w0 ⟨rfl, he0⟩) | (go_at_call 29; refine (Cy _ (e0.trans he0)).mono ?_; rintro e w1 ⟨rfl, he01⟩; have he1 := he0.trans he01; have q0 := d0 w1 he1; have q1 := d1 w1 he1; have q2 := d2 w1 he1))
  have E1 := Lib.hid (e0.trans he1)
  have F0 := fun W (e : Ext w1 W) => d0 W (he1.trans e)
  have F1 := fun W (e : Ext w1 W) => d1 W (he1.trans e)
  have F2 := fun W (e : Ext w1 W) => d2 W (he1.trans e)
  clear Cz Cy d0 d1 d2 he1 he0 he01 e0
  -- the reference's answer
  refine (toDisk_c w1 (HS.out.ext E1.out) (HT.out.ext E1.out) (HN.out.ext E1.out) Hbs.out Hbt.out Hbn.out).mono ?_
  rintro e w2 ⟨r2, rfl, hV2, he2⟩
  obtain ⟨p1, p2, p3, rfl, hH2, hI2, hN2⟩ := hV2.plain
  have HH2 := Lib.hid hH2; have HI2 := Lib.hid hI2; have HN2 := Lib.hid hN2
  clear hV2 hH2 hI2 hN2 q0 q1 q2
  go_wp2_with fail
  refine (toQuotaS_c w2 (HQ.out.ext (E1.out.trans he2)) Hbq.out).mono ?_
  rintro e w2' ⟨rq, rfl, hQ2, he2'⟩
  have Cs := specQuotasOver_c w2' (HH2.out.ext he2') (HI2.out.ext he2') (HN2.out.ext he2') hQ2.plain
  obtain ⟨gq, cq, csq, rfl, -⟩ := hQ2
  clear HH2 HI2 HN2
  go_wp2_with fail
  refine Cs.mono ?_
  rintro e w3 ⟨u3, rfl, hC3, he3⟩
  have e13 := he2.trans (he2'.trans he3)
  have HC := Lib.hid hC3
  clear hC3
  generalize hLL : overOf s t l q = L at *
  have HLL := Lib.hid hLL; clear hLL
  have CW : Hid (∀ (B : Nat) W g, Ext w3 W → Strs B W g L → Calls Tryz.prog 33 #[g, u3] W (Ret (.bool true) W)) := Lib.hid fun B W g e hg => by
    have := laws_eqStringS_c W hg (HC.out.ext e)
    rwa [show eqb L L = true from eqb_true.2 rfl] at this
  have E3 := Lib.hid (E1.out.trans e13)
  have q0 := F0 w3 e13; have q1 := F1 w3 e13; have q2 := F2 w3 e13
  have G0 := fun W (e : Ext w3 W) => F0 W (e13.trans e)
  have G1 := fun W (e : Ext w3 W) => F1 W (e13.trans e)
  have G2 := fun W (e : Ext w3 W) => F2 W (e13.trans e)
  clear Cs F0 F1 F2 he2 he2' he3 e13
  -- the program's argument
  go_wp2_with fail
  refine (toDisk_c w3 (HS.out.ext E3.out) (HT.out.ext E3.out) (HN.out.ext E3.out) Hbs.out Hbt.out Hbn.out).mono ?_
  rintro e w4 ⟨r4, rfl, ⟨x1, x2, x3, lh, li, lq, m, m2, rfl, hlh, hHU, hSp, hft, hli, hIU, hSpi, hft2, hlq, hNU, hmle, hmm⟩, he4⟩
  have HU4 := Lib.hid hHU; have IU4 := Lib.hid hIU; have HSp := Lib.hid hSp; have HSpi := Lib.hid hSpi; have Hft := Lib.hid hft; have NU4 := Lib.hid hNU; have Hft2 := Lib.hid hft2; have Hmm := Lib.hid hmm
  have Hbq2 : Hid (bkSns (lq.map Prod.fst) ≤ 1048576) := Lib.hid (by rw [hlq]; exact Hbn.out)
  have Hsz34 := Lib.hid he4.size
  have HFoot : Hid (∀ b, FootDk x1 x2 x3 lh li lq b → w3.heap.size ≤ b ∧ b < w4.heap.size) := Lib.hid fun b hb => by
    rcases hb with hb | hb | hb
    · exact hHU.foot hb
    · have := hIU.foot hb; omega
    · have := hNU.foot hb; omega
  have hcost : Hid (cHds (lh.map Prod.fst) ≤ 100000000000000 ∧ cIts (li.map Prod.fst) ≤ 100000000000000 ∧ cSns (lq.map Prod.fst) ≤ 2097152) := Lib.hid ⟨hHU.cost, hIU.cost', by have := cSns_bk (lq.map Prod.fst); have := Hbq2.out; omega⟩
  have hH4 : Hds 0 w4 x1 s := by have := hHU.plain; rw [hlh] at this; exact this.keep (Nat.zero_le _) (fun _ _ _ => rfl)
  have hI4 : Its 0 w4 x2 t := by have := hIU.its; rw [hli] at this; exact this.keep (Nat.zero_le _) (fun _ _ _ => rfl)
  have hN4 : Sns 0 w4 x3 l := by have := hNU.plain; rwa [hlq] at this
  have HH4 := Lib.hid hH4; have HI4 := Lib.hid hI4; have HN4 := Lib.hid hN4
  clear hHU hIU hNU hSp hSpi hft hft2 hlh hli hlq hmle hmm
  obtain ⟨Ax, cx, rfl, -⟩ := hH4
  obtain ⟨Ay, cy, rfl, -⟩ := hI4
  obtain ⟨Au, cu, rfl, -⟩ := hN4
  have e5 : Ext w3 (w4.alloc (.cells #[.slice Ax s.length cx, .slice Ay t.length cy, .slice Au l.length cu] 33)) := he4.alloc _
  have e45 : Ext w4 (w4.alloc (.cells #[.slice Ax s.length cx, .slice Ay t.length cy, .slice Au l.length cu] 33)) := (Ext.refl w4).alloc _
  have hbx := Blk.new w4 33 #[.slice Ax s.length cx, .slice Ay t.length cy, .slice Au l.length cu]
  have X0 := fun W (e : Ext _ W) => hbx.at_ (i := 0) (u := .slice Ax s.length cx) rfl W e
  have X1 := fun W (e : Ext _ W) => hbx.at_ (i := 1) (u := .slice Ay t.length cy) rfl W e
  have X2 := fun W (e : Ext _ W) => hbx.at_ (i := 2) (u := .slice Au l.length cu) rfl W e
  clear hbx q0 q1 q2
  go_wp2_with fail
  refine (toQuotaS_c _ (HQ.out.ext (E3.out.trans e5)) Hbq.out).mono ?_
  rintro e w4' ⟨rx, rfl, hQ4, he4'⟩
  simp only [World.size_alloc] at hQ4
  have xq0 := X0 w4' he4'; have xq1 := X1 w4' he4'; have xq2 := X2 w4' he4'
  have e45' : Ext w4 w4' := e45.trans he4'
  have Cv := QuotasOver_c (a := a) w4' (HH4.out.ext e45') (HI4.out.ext e45') (HN4.out.ext e45') hQ4.plain (HM.out.ext (E3.out.trans (e5.trans he4'))) (HE.out.ext (E3.out.trans (e5.trans he4')))
  have HQU := Lib.hid hQ4
  obtain ⟨gx, cx9, csx, rfl, hgx, hcx1, hcx2, hlx, hbx9, hex⟩ := hQ4
  have Hgx := Lib.hid (And.intro hgx hbx9.lt)
  clear hgx hcx1 hcx2 hlx hbx9 hex
  go_wp2_with fail
  refine Cv.mono ?_
  rintro e w5 ⟨g, rfl, hg5, he5'⟩
  rw [HLL.out] at hg5
  have he5 := he4'.trans he5'
  have e35 := e5.trans he5
  have Cq := CW.out _ w5 g e35 hg5
  have Hg5 := Lib.hid hg5
  obtain ⟨Ag, cg, rfl, -⟩ := hg5
  have HH5 := Lib.hid (HH4.out.ext (e45'.trans he5')); have HI5 := Lib.hid (HI4.out.ext (e45'.trans he5')); have HN5 := Lib.hid (HN4.out.ext (e45'.trans he5'))
  have HQ5 := Lib.hid (HQU.out.ext he5')
  have e4_5 := Lib.hid (e45'.trans he5')
  have x0 := fun W (e : Ext w5 W) => X0 W (he5.trans e)
  have x1 := fun W (e : Ext w5 W) => X1 W (he5.trans e)
  have x2 := fun W (e : Ext w5 W) => X2 W (he5.trans e)
  have a0 := fun W (e : Ext w5 W) => G0 W (e35.trans e)
  have a1 := fun W (e : Ext w5 W) => G1 W (e35.trans e)
  have a2 := fun W (e : Ext w5 W) => G2 W (e35.trans e)
  have E35 := Lib.hid e35
  clear Cv X0 X1 X2 he4 he4' he5' he5 e5 e45 e45' e35 HH4 HI4 HN4 xq0 xq1 xq2 HQU
  go_wp2_with fail
  refine Cq.mono ?_
  rintro e w5' ⟨rfl, he5'⟩
  clear Cq
  go_wp2
  have HH5' := Lib.hid (HH5.out.ext he5'); have HI5' := Lib.hid (HI5.out.ext he5'); have HN5' := Lib.hid (HN5.out.ext he5')
  have x0' := fun W (e : Ext w5' W) => x0 W (he5'.trans e)
  have x1' := fun W (e : Ext w5' W) => x1 W (he5'.trans e)
  have x2' := fun W (e : Ext w5' W) => x2 W (he5'.trans e)
  have a0' := fun W (e : Ext w5' W) => a0 W (he5'.trans e)
  have a1' := fun W (e : Ext w5' W) => a1 W (he5'.trans e)
  have a2' := fun W (e : Ext w5' W) => a2 W (he5'.trans e)
  have E5' := Lib.hid (E35.out.trans he5')
  clear x0 x1 x2 a0 a1 a2 HH5 HI5 HN5
  -- the arguments are as they were
  refine wp_region_hold (fun W => (W.cell? ⟨w4.heap.size, 0, none⟩ = some (.slice Ax s.length cx) ∧ W.cell? ⟨w4.heap.size, 1, none⟩ = some (.slice Ay t.length cy) ∧ W.cell? ⟨w4.heap.size, 2, none⟩ = some (.slice Au l.length cu)) ∧ W.cell? ⟨w.heap.size, 0, none⟩ = some (.slice A s.length c) ∧ W.cell? ⟨w.heap.size, 1, none⟩ = some (.slice A2 t.length c2) ∧ W.cell? ⟨w.heap.size, 2, none⟩ = some (.slice A3 l.length c3)) 3 [(0, true), (1, true), (2, false)] (by kernel_rfl) (by kernel_rfl) ?_ ?_
  · exact ⟨⟨x0' _ (Ext.refl _).drew, x1' _ (Ext.refl _).drew, x2' _ (Ext.refl _).drew⟩, a0' _ (Ext.refl _).drew, a1' _ (Ext.refl _).drew, a2' _ (Ext.refl _).drew⟩
  (repeat (first | (apply hw_read (by rfl) (by rfl); (· (intro W hW; (try dsimp only at hW); go_simp; (first | done | rfl | (rw [if_pos] <;> first | omega | rfl)))); (try simp only [Act.put, List.setIfInBounds_toArray, List.set_cons_zero, List.set_cons_succ])) | (refine hw_skip (by rfl) (by rfl) ?_; (try simp only [Act.put, List.setIfInBounds_toArray, List.set_cons_zero, List.set_cons_succ]))))
  refine hw_step (by rfl) ?_
  go_wp2_with (go_at_call 13; refine (toDisk_c _ (HS.out.ext (E3.out.trans E5'.out).drew) (HT.out.ext (E3.out.trans E5'.out).drew) (HN.out.ext (E3.out.trans E5'.out).drew) Hbs.out Hbt.out Hbn.out).mono ?_; rintro e w6 ⟨r6, rfl, hV6, he6⟩; obtain ⟨y1, y2, y3, rfl, hH6, hI6, hN6⟩ := hV6.plain)
  have e56 : Ext w5' w6 := (Ext.refl w5').drew.trans he6
  have Ce := eqDisk_same w6 (HH5'.out.ext e56) (HI5'.out.ext e56) (HN5'.out.ext e56) hH6 hI6 hN6
  refine ⟨⟨⟨x0' _ e56, x1' _ e56, x2' _ e56⟩, a0' _ e56, a1' _ e56, a2' _ e56⟩, ?_⟩
  clear hV6 hH6 hI6 hN6 a0' a1' a2'
  (try (repeat (first | (apply hw_read (by rfl) (by rfl); (· (intro W hW; (try dsimp only at hW); go_simp; (first | done | rfl | (rw [if_pos] <;> first | omega | rfl)))); (try simp only [Act.put, List.setIfInBounds_toArray, List.set_cons_zero, List.set_cons_succ])) | (refine hw_skip (by rfl) (by rfl) ?_; (try simp only [Act.put, List.setIfInBounds_toArray, List.set_cons_zero, List.set_cons_succ])))))
  (refine hw_nil ?_; (try simp only [List.drop_succ_cons, List.drop_zero]))
  go_wp2_with (go_at_call 15; refine Ce.mono ?_; rintro e w7 ⟨rfl, he7⟩)
  refine NoPanic.normal ?_
  (try dsimp only [Exit.then])
  have e57 := e56.trans he7
  have E37q := Lib.hid (E5'.out.trans e57)
  have HQ7 := Lib.hid (HQ5.out.ext (he5'.trans e57))
  clear Ce
  go_wp2_with fail
  refine (toQuotaS_c w7 (HQ.out.ext (E3.out.trans E37q.out)) Hbq.out).mono ?_
  rintro e w8 ⟨r8, rfl, hQ8, he8⟩
  have Cg := laws_eqQuotaS_c w8 (HQ7.out.plain.ext he8) hQ8.plain
  rw [show eqb q q = true from eqb_true.2 rfl] at Cg
  obtain ⟨gy, cy9, csy, rfl, -⟩ := hQ8
  go_wp2_with fail
  refine Cg.mono ?_
  rintro e w9 ⟨rfl, he9⟩
  have e59 := e57.trans (he8.trans he9)
  have E49 := Lib.hid (e4_5.out.trans (he5'.trans e59))
  have E39 := Lib.hid (E5'.out.trans e59)
  have Hg9 := Lib.hid (Hg5.out.ext (he5'.trans e59))
  have HQ9 := Lib.hid (HQ7.out.ext (he8.trans he9))
  have X0 := x0' _ e59; have X1 := x1' _ e59; have X2 := x2' _ e59
  clear x0' x1' x2' Cg he5' e56 he7 he6 e57 he8 he9 e59 E5' HQ5 HQ7 E37q
  -- the arguments are marked
  have Cm := markDisk_c w9 (HU4.out.ext E49.out) HSp.out Hft.out (IU4.out.ext E49.out) HSpi.out Hft2.out (NU4.out.ext E49.out) Hmm.out Hbq2.out
  generalize hnx : ((1 : Int) + (cHds (lh.map Prod.fst) : Nat) + (cIts (li.map Prod.fst) : Nat) + (cSns (lq.map Prod.fst) : Nat)) = nx at *
  have hnx1 : 1 ≤ nx ∧ nx ≤ 1152921504606846976 := by have := hcost.out; omega
  obtain ⟨hnx1, hnx2⟩ := hnx1
  clear hnx
  go_wp2_with fail
  refine Cm.mono ?_
  rintro e w10 ⟨rfl, -, hM10⟩
  have M10 : Hid (Mod (fun b => w3.heap.size ≤ b ∧ b < w4.heap.size) w9 w10) := Lib.hid (hM10.mono HFoot.out)
  have E10 : Hid (Ext w3 w10) := Lib.hid (M10.out.ext E39.out fun b hb => hb.1)
  have HQ10 : Hid (QtsU (w4.heap.size + 1) w10 (.slice (some ⟨gx, 0, none⟩) q.length cx9) q) := Lib.hid (HQ9.out.mod M10.out (fun b hb => by omega))
  have Hg10 : Hid (Strs w4'.heap.size w10 (.slice Ag L.length cg) L) := Lib.hid (Hg9.out.keep (Nat.le_refl _) (M10.out.keeps fun b hb => by have := Hgx.out; omega))
  clear Cm hM10 M10 X0 X1 X2 HQ9 Hg9 E39
  have Cm := markQuotaS_c (k := nx) w10 HQ10.out hnx1 hnx2
  generalize hqq : nx + (2 * q.length : Nat) = nq at *
  have hnq0 : ¬ nq < 0 := by omega
  clear hqq
  generalize q.length = nql at *
  go_wp2_with fail
  refine Cm.mono ?_
  rintro e w11 ⟨rfl, -, hM11⟩
  have M11 : Hid (Mod (fun b => b = gx) w10 w11) := Lib.hid (hM11.mono fun b hb => by simp only [Value.ownBlock, Option.some.injEq] at hb; exact hb.symm)
  have E11 : Hid (Ext w3 w11) := Lib.hid (M11.out.ext E10.out fun b hb => by have hb' : b = gx := hb; have := Hgx.out; have := Hsz34.out; omega)
  have Hg11 : Hid (Strs w4'.heap.size w11 (.slice Ag L.length cg) L) := Lib.hid (Hg10.out.keep (Nat.le_refl _) (M11.out.keeps fun b hb => by have := Hgx.out; omega))
  have Cq := CW.out _ _ _ E11.out Hg11.out
  clear hM11 M11 Cm HQ10 Hg10 E10
  go_wp2_with (go_at_call 33; refine Cq.mono ?_; rintro e w12 ⟨rfl, he12⟩)
  have E12 := Lib.hid (E11.out.trans he12)
  have Hg12 := Lib.hid (Hg11.out.ext he12)
  clear he12 Cq Hg11 E11
  -- the answer is marked
  have hll : Hid (L.length ≤ 4194304) := Lib.hid (by obtain ⟨A9, c9, e9, hA9⟩ := Hg12.out; have := hA9.2.2.1; unfold lim at this; exact this)
  have Cm := markStringS_c (k := 1) w12 Hg12.out (by omega) (by omega)
  go_wp2_with fail
  refine Cm.mono ?_
  rintro e w13 ⟨rfl, hg13, hM13⟩
  have E13 : Hid (Ext w3 w13) := Lib.hid (hM13.ext E12.out fun b hb => by have := (Hg12.out.own hb).1; have := Hgx.out; have := Hsz34.out; omega)
  have Hg13 := Lib.hid hg13
  have hll := hll.out
  generalize hnl : L.length = nl at *
  clear hM13 hg13 Cm hnl Hg12 E12
  have Ch := heldStringS_c (k := 1) w13 Hg13.out (by omega) (by omega)
  go_wp2_with (go_at_call 37; refine Ch.mono ?_; rintro e w14 ⟨rfl, he14⟩; have z0 := G0 _ (E13.out.trans he14); have z1 := G1 _ (E13.out.trans he14); have z2 := G2 _ (E13.out.trans he14))
  -- once more
  have E14 := Lib.hid (E13.out.trans he14)
  have Hg14 := Lib.hid (Hg13.out.ext he14)
  clear Ch he14 Hg13 E13
  refine (toDisk_c w14 (HS.out.ext (E3.out.trans E14.out)) (HT.out.ext (E3.out.trans E14.out)) (HN.out.ext (E3.out.trans E14.out)) Hbs.out Hbt.out Hbn.out).mono ?_
  rintro e w15 ⟨r15, rfl, hV15, he15⟩
  obtain ⟨y1, y2, y3, rfl, hH15, hI15, hN15⟩ := hV15.plain
  have HH15 := Lib.hid hH15; have HI15 := Lib.hid hI15; have HN15 := Lib.hid hN15
  clear hV15 hH15 hI15 hN15 z0 z1 z2
  go_wp2_with fail
  refine (toQuotaS_c w15 (HQ.out.ext (E3.out.trans (E14.out.trans he15))) Hbq.out).mono ?_
  rintro e w16 ⟨r16, rfl, hQ16, he16⟩
  have Cv := QuotasOver_c (a := a) w16 (HH15.out.ext he16) (HI15.out.ext he16) (HN15.out.ext he16) hQ16.plain (HM.out.ext (E3.out.trans (E14.out.trans (he15.trans he16)))) (HE.out.ext (E3.out.trans (E14.out.trans (he15.trans he16))))
  obtain ⟨gz, cz9, csz, rfl, -⟩ := hQ16
  go_wp2_with fail
  refine Cv.mono ?_
  rintro e w17 ⟨g17, rfl, hg17, he17⟩
  rw [HLL.out] at hg17
  have E17 := Lib.hid (E14.out.trans (he15.trans (he16.trans he17)))
  have Cq := CW.out _ _ _ E17.out hg17
  have Hg17 := Lib.hid (Hg14.out.ext (he15.trans (he16.trans he17)))
  clear Cv he15 he16 he17 hg17
  go_wp2_with fail
  refine Cq.mono ?_
  rintro e w18 ⟨rfl, he18⟩
  have Ch := heldStringS_c (k := 1) w18 (Hg17.out.ext he18) (by omega) (by omega)
  clear Cq
  go_wp2_with (go_at_call 37; refine Ch.mono ?_; rintro e w19 ⟨rfl, he19⟩)
  go_ret
  exact ⟨rfl, E3.out.trans ((E17.out.trans he18).trans he19)⟩
end Go.Sf
