/- The exact law of QuotasAllow. -/
import Derived.Test.YtadjkgdlpaddjaaGreatDoorX10
import Derived.Test.YtadjkgdlpaddjaaGreatDoorX12
import Derived.Test.YtadjkgdlpaddjaaGreatDoorT105
namespace Go.Sf
open Go Go.RowKit Go.Proofs
set_option maxRecDepth 8000 in
set_option maxHeartbeats 4000000 in
theorem FnExactQuotasAllow_c {a : Addr} {vs vt vn vq : Value} {s : List Hd} {t : List It} {l : List Sn} {q : List Qt} {p : ByteArray} {n : Int} (w : World) (hs : AHds w vs s) (ht : AIts w vt t) (hn : ASns w vn l) (hq : AQts w vq q) (hp : p.size ≤ maxLen) (hin : inI n) (hm : ML w) (hE : EB a w) : Calls Tryz.prog 8 #[.agg #[vs, vt, vn], vq, .string p, .int .i64 n] w (Ret (.bool true) w) := by
  unfold maxLen at hp
  have HS := Lib.hid hs; have HT := Lib.hid ht; have HN := Lib.hid hn; have HM := Lib.hid hm; have HQ := Lib.hid hq; have HE := Lib.hid hE; have HIn := Lib.hid hin
  obtain ⟨A, c, rfl, -⟩ := hs
  obtain ⟨A2, c2, rfl, -⟩ := ht
  obtain ⟨A3, c3, rfl, -⟩ := hn
  obtain ⟨A4, c4, rfl, -⟩ := hq
  have e0 : Ext w (w.alloc (.cells #[.slice A s.length c, .slice A2 t.length c2, .slice A3 l.length c3] 26)) := (Ext.refl w).alloc _
  by_cases hFp : (1048576 : Int) < (p.size : Int)
  · clear hm
    go_enter Tryz.func8, Tryz.ntmps8
    go_wp2
    go_ret
    exact ⟨rfl, e0⟩
  have hbk := Blk.new w 26 #[.slice A s.length c, .slice A2 t.length c2, .slice A3 l.length c3]
  have d0 := fun W (e : Ext _ W) => hbk.at_ (i := 0) (u := .slice A s.length c) rfl W e
  have d1 := fun W (e : Ext _ W) => hbk.at_ (i := 1) (u := .slice A2 t.length c2) rfl W e
  have d2 := fun W (e : Ext _ W) => hbk.at_ (i := 2) (u := .slice A3 l.length c3) rfl W e
  have Cz := szDisk_c (left := 1048576) _ (HS.out.ext e0) (HT.out.ext e0) (HN.out.ext e0) (by omega) (by omega)
  clear hm hbk hE hin
  by_cases hbig : (1048576 : Int) < ((bkHds s + bkIts t + bkSns l : Nat) : Int)
  · rw [dec_neg hbig] at Cz
    clear hbig
    go_enter Tryz.func8, Tryz.ntmps8
    go_wp2_with (go_at_call 17; refine Cz.mono ?_; rintro e w1 ⟨rfl, he1⟩)
    go_ret
    exact ⟨rfl, e0.trans he1⟩
  rw [dec_pos hbig] at Cz
  have HPp : Hid (p.size < lim) := Lib.hid (by unfold lim; omega)
  have hd0 : ¬ (1048576 : Int) - ((bkHds s + bkIts t + bkSns l : Nat) : Int) < 0 := by omega
  have Hbs : Hid (bkHds s ≤ 1048576) := Lib.hid (by omega)
  have Hbt : Hid (bkIts t ≤ 1048576) := Lib.hid (by omega)
  have Hbn : Hid (bkSns l ≤ 1048576) := Lib.hid (by omega)
  have Cy := fun W (e : Ext w W) => szQuotaS_c (left := (1048576 : Int) - ((bkHds s + bkIts t + bkSns l : Nat) : Int)) W (HQ.out.ext e) (by omega) (by omega)
  by_cases hbig2 : (1048576 : Int) - ((bkHds s + bkIts t + bkSns l : Nat) : Int) < ((bkQts q : Nat) : Int)
  · rw [dec_neg hbig2] at Cy
    generalize (1048576 : Int) - ((bkHds s + bkIts t + bkSns l : Nat) : Int) = D at *
    clear hbig hbig2
    go_enter Tryz.func8, Tryz.ntmps8
    go_wp2_with (first | (go_at_call 17; refine Cz.mono ?_; rintro e w1 ⟨rfl, he1⟩) | (go_at_call 43; refine (Cy _ (e0.trans he1)).mono ?_; rintro e w2 ⟨rfl, he2⟩))
    go_ret
    exact ⟨rfl, e0.trans (he1.trans he2)⟩
  rw [dec_pos hbig2] at Cy
  have hd1 : ¬ (1048576 : Int) - ((bkHds s + bkIts t + bkSns l : Nat) : Int) - ((bkQts q : Nat) : Int) < 0 := by omega
  have Hbq : Hid (bkQts q ≤ 1048576) := Lib.hid (by omega)
  generalize (1048576 : Int) - ((bkHds s + bkIts t + bkSns l : Nat) : Int) - ((bkQts q : Nat) : Int) = DD at *
  generalize (1048576 : Int) - ((bkHds s + bkIts t + bkSns l : Nat) : Int) = D at *
  clear hbig hbig2
  go_enter Tryz.func8, Tryz.ntmps8
  go_wp2_with (first | (go_at_call 17; refine Cz.mono ?_; rintro e w0 ⟨rfl, he0⟩) | (go_at_call 43; refine (Cy _ (e0.trans he0)).mono ?_; rintro e w1 ⟨rfl, he01⟩; have he1 := he0.trans he01; have q0 := d0 w1 he1; have q1 := d1 w1 he1; have q2 := d2 w1 he1))
  have E1 := Lib.hid (e0.trans he1)
  have F0 := fun W (e : Ext w1 W) => d0 W (he1.trans e)
  have F1 := fun W (e : Ext w1 W) => d1 W (he1.trans e)
  have F2 := fun W (e : Ext w1 W) => d2 W (he1.trans e)
  clear Cz Cy d0 d1 d2 he1 he0 he01 e0 hFp
  -- the reference's answer
  refine (toDisk_c w1 (HS.out.ext E1.out) (HT.out.ext E1.out) (HN.out.ext E1.out) Hbs.out Hbt.out Hbn.out).mono ?_
  rintro e w2 ⟨r2, rfl, hV2, he2⟩
  obtain ⟨p1, p2, p3, rfl, hH2, hI2, hN2⟩ := hV2.plain
  have HH2 := Lib.hid hH2; have HI2 := Lib.hid hI2; have HN2 := Lib.hid hN2
  clear hV2 hH2 hI2 hN2 q0 q1 q2
  go_wp2_with fail
  refine (toQuotaS_c w2 (HQ.out.ext (E1.out.trans he2)) Hbq.out).mono ?_
  rintro e w2' ⟨rq, rfl, hQ2, he2'⟩
  have Cs := specQuotasAllow_c p n w2' (HH2.out.ext he2') (HI2.out.ext he2') (HN2.out.ext he2') hQ2.plain HPp.out HIn.out
  obtain ⟨gq, cq, csq, rfl, -⟩ := hQ2
  clear HH2 HI2 HN2
  go_wp2_with fail
  refine Cs.mono ?_
  rintro e w3 ⟨rfl, he3⟩
  have e13 := he2.trans (he2'.trans he3)
  have E3 := Lib.hid (E1.out.trans e13)
  have q0 := F0 w3 e13; have q1 := F1 w3 e13; have q2 := F2 w3 e13
  have G0 := fun W (e : Ext w3 W) => F0 W (e13.trans e)
  have G1 := fun W (e : Ext w3 W) => F1 W (e13.trans e)
  have G2 := fun W (e : Ext w3 W) => F2 W (e13.trans e)
  clear Cs F0 F1 F2 he2 he2' he3 e13
  -- the program's answer
  go_wp2_with fail
  refine (toDisk_c w3 (HS.out.ext E3.out) (HT.out.ext E3.out) (HN.out.ext E3.out) Hbs.out Hbt.out Hbn.out).mono ?_
  rintro e w4 ⟨r4, rfl, hV4, he4⟩
  obtain ⟨x1, x2, x3, rfl, hH4, hI4, hN4⟩ := hV4.plain
  have HH4 := Lib.hid hH4; have HI4 := Lib.hid hI4; have HN4 := Lib.hid hN4
  obtain ⟨Ax, cx, rfl, -⟩ := hH4
  obtain ⟨Ay, cy, rfl, -⟩ := hI4
  obtain ⟨Au, cu, rfl, -⟩ := hN4
  have e5 : Ext w3 (w4.alloc (.cells #[.slice Ax s.length cx, .slice Ay t.length cy, .slice Au l.length cu] 33)) := he4.alloc _
  have e45 : Ext w4 (w4.alloc (.cells #[.slice Ax s.length cx, .slice Ay t.length cy, .slice Au l.length cu] 33)) := (Ext.refl w4).alloc _
  have hbx := Blk.new w4 33 #[.slice Ax s.length cx, .slice Ay t.length cy, .slice Au l.length cu]
  have X0 := fun W (e : Ext _ W) => hbx.at_ (i := 0) (u := .slice Ax s.length cx) rfl W e
  have X1 := fun W (e : Ext _ W) => hbx.at_ (i := 1) (u := .slice Ay t.length cy) rfl W e
  have X2 := fun W (e : Ext _ W) => hbx.at_ (i := 2) (u := .slice Au l.length cu) rfl W e
  clear hV4 hbx q0 q1 q2
  go_wp2_with fail
  refine (toQuotaS_c _ (HQ.out.ext (E3.out.trans e5)) Hbq.out).mono ?_
  rintro e w4' ⟨rx, rfl, hQ4, he4'⟩
  have xq0 := X0 w4' he4'; have xq1 := X1 w4' he4'; have xq2 := X2 w4' he4'
  have e45' : Ext w4 w4' := e45.trans he4'
  have Cv := QuotasAllow_c (a := a) p n w4' (HH4.out.ext e45') (HI4.out.ext e45') (HN4.out.ext e45') hQ4.plain HPp.out HIn.out (HM.out.ext (E3.out.trans (e5.trans he4'))) (HE.out.ext (E3.out.trans (e5.trans he4')))
  have HQ4 := Lib.hid hQ4.plain
  obtain ⟨gx, cx9, csx, rfl, -⟩ := hQ4
  generalize allowOk s t l q p n = bb at *
  go_wp2_with fail
  refine Cv.mono ?_
  rintro e w5 ⟨rfl, he5'⟩
  have HQ5 := Lib.hid (HQ4.out.ext he5')
  have he5 := he4'.trans he5'
  clear xq0 xq1 xq2 HQ4 e45'
  have e35 := e5.trans he5
  have E5 := Lib.hid (E3.out.trans e35)
  have HH5 := Lib.hid (HH4.out.ext (e45.trans he5)); have HI5 := Lib.hid (HI4.out.ext (e45.trans he5)); have HN5 := Lib.hid (HN4.out.ext (e45.trans he5))
  have x0 := fun W (e : Ext w5 W) => X0 W (he5.trans e)
  have x1 := fun W (e : Ext w5 W) => X1 W (he5.trans e)
  have x2 := fun W (e : Ext w5 W) => X2 W (he5.trans e)
  have a0 := fun W (e : Ext w5 W) => G0 W (e35.trans e)
  have a1 := fun W (e : Ext w5 W) => G1 W (e35.trans e)
  have a2 := fun W (e : Ext w5 W) => G2 W (e35.trans e)
  clear Cv X0 X1 X2 G0 G1 G2 he4 he4' he5' he5 e5 e45 e35 HH4 HI4 HN4
  go_wp2
  refine wp_region_hold (fun W => (W.cell? ⟨w4.heap.size, 0, none⟩ = some (.slice Ax s.length cx) ∧ W.cell? ⟨w4.heap.size, 1, none⟩ = some (.slice Ay t.length cy) ∧ W.cell? ⟨w4.heap.size, 2, none⟩ = some (.slice Au l.length cu)) ∧ W.cell? ⟨w.heap.size, 0, none⟩ = some (.slice A s.length c) ∧ W.cell? ⟨w.heap.size, 1, none⟩ = some (.slice A2 t.length c2) ∧ W.cell? ⟨w.heap.size, 2, none⟩ = some (.slice A3 l.length c3)) 3 [(0, true), (1, true), (2, false)] (by kernel_rfl) (by kernel_rfl) ?_ ?_
  · exact ⟨⟨x0 _ (Ext.refl _).drew, x1 _ (Ext.refl _).drew, x2 _ (Ext.refl _).drew⟩, a0 _ (Ext.refl _).drew, a1 _ (Ext.refl _).drew, a2 _ (Ext.refl _).drew⟩
  (repeat (first | (apply hw_read (by rfl) (by rfl); (· (intro W hW; (try dsimp only at hW); go_simp; (first | done | rfl | (rw [if_pos] <;> first | omega | rfl)))); (try simp only [Act.put, List.setIfInBounds_toArray, List.set_cons_zero, List.set_cons_succ])) | (refine hw_skip (by rfl) (by rfl) ?_; (try simp only [Act.put, List.setIfInBounds_toArray, List.set_cons_zero, List.set_cons_succ]))))
  refine hw_step (by rfl) ?_
  go_wp2_with (go_at_call 19; refine (toDisk_c _ (HS.out.ext E5.out.drew) (HT.out.ext E5.out.drew) (HN.out.ext E5.out.drew) Hbs.out Hbt.out Hbn.out).mono ?_; rintro e w6 ⟨r6, rfl, hV6, he6⟩; obtain ⟨y1, y2, y3, rfl, hH6, hI6, hN6⟩ := hV6.plain)
  have e56 : Ext w5 w6 := (Ext.refl w5).drew.trans he6
  have Ce := eqDisk_same w6 (HH5.out.ext e56) (HI5.out.ext e56) (HN5.out.ext e56) hH6 hI6 hN6
  refine ⟨⟨⟨x0 _ e56, x1 _ e56, x2 _ e56⟩, a0 _ e56, a1 _ e56, a2 _ e56⟩, ?_⟩
  clear hV6 hH6 hI6 hN6 x0 x1 x2 a0 a1 a2
  (try (repeat (first | (apply hw_read (by rfl) (by rfl); (· (intro W hW; (try dsimp only at hW); go_simp; (first | done | rfl | (rw [if_pos] <;> first | omega | rfl)))); (try simp only [Act.put, List.setIfInBounds_toArray, List.set_cons_zero, List.set_cons_succ])) | (refine hw_skip (by rfl) (by rfl) ?_; (try simp only [Act.put, List.setIfInBounds_toArray, List.set_cons_zero, List.set_cons_succ])))))
  (refine hw_nil ?_; (try simp only [List.drop_succ_cons, List.drop_zero]))
  go_wp2_with (go_at_call 21; refine Ce.mono ?_; rintro e w7 ⟨rfl, he7⟩)
  refine NoPanic.normal ?_
  (try dsimp only [Exit.then])
  have E7 := Lib.hid (E5.out.trans (e56.trans he7))
  have HQ7 := Lib.hid (HQ5.out.ext (e56.trans he7))
  clear Ce he7 e56 he6
  go_wp2_with fail
  refine (toQuotaS_c w7 (HQ.out.ext E7.out) Hbq.out).mono ?_
  rintro e w8 ⟨r8, rfl, hQ8, he8⟩
  have Cg := laws_eqQuotaS_c w8 (HQ7.out.ext he8) hQ8.plain
  rw [show eqb q q = true from eqb_true.2 rfl] at Cg
  obtain ⟨gy, cy9, csy, rfl, -⟩ := hQ8
  go_wp2_with fail
  refine Cg.mono ?_
  rintro e w9 ⟨rfl, he9⟩
  go_wp2
  go_ret
  exact ⟨rfl, E7.out.trans (he8.trans he9)⟩
end Go.Sf
