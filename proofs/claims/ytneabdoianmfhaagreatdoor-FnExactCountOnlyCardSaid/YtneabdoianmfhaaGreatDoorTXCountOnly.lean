/- The exact law of CountOnly. -/
import Derived.Test.YtneabdoianmfhaaGreatDoorX10
import Derived.Test.YtneabdoianmfhaaGreatDoorT113
namespace Go.Sf
open Go Go.RowKit Go.Proofs
set_option maxRecDepth 8000 in
set_option maxHeartbeats 4000000 in
theorem FnExactCountOnly_c {vs vt vn : Value} {s : List Hd} {t : List It} {l : List Sn} {p : ByteArray} (w : World) (hs : AHds w vs s) (ht : AIts w vt t) (hn : ASns w vn l) (hp : p.size ≤ maxLen) (hm : ML w) (het : ET w) : Calls Tryz.prog 3 #[.agg #[vs, vt, vn], .string p] w (Ret (.bool true) w) := by
  unfold maxLen at hp
  have HS := Lib.hid hs; have HT := Lib.hid ht; have HN := Lib.hid hn; have HM := Lib.hid hm; have HET := Lib.hid het; clear het
  obtain ⟨A, c, rfl, -⟩ := hs
  obtain ⟨A2, c2, rfl, -⟩ := ht
  obtain ⟨A3, c3, rfl, -⟩ := hn
  have e0 : Ext w (w.alloc (.cells #[.slice A s.length c, .slice A2 t.length c2, .slice A3 l.length c3] 26)) := (Ext.refl w).alloc _
  by_cases hFp : (1048576 : Int) < (p.size : Int)
  · clear hm
    go_enter Tryz.func3, Tryz.ntmps3
    go_wp2
    go_ret
    exact ⟨rfl, e0⟩
  have hbk := Blk.new w 26 #[.slice A s.length c, .slice A2 t.length c2, .slice A3 l.length c3]
  have d0 := fun W (e : Ext _ W) => hbk.at_ (i := 0) (u := .slice A s.length c) rfl W e
  have d1 := fun W (e : Ext _ W) => hbk.at_ (i := 1) (u := .slice A2 t.length c2) rfl W e
  have d2 := fun W (e : Ext _ W) => hbk.at_ (i := 2) (u := .slice A3 l.length c3) rfl W e
  have Cz := szDisk_c (left := 1048576) _ (HS.out.ext e0) (HT.out.ext e0) (HN.out.ext e0) (by omega) (by omega)
  clear hm hbk
  by_cases hbig : (1048576 : Int) < ((bkHds s + bkIts t + bkSns l : Nat) : Int)
  · rw [dec_neg hbig] at Cz
    clear hbig
    go_enter Tryz.func3, Tryz.ntmps3
    go_wp2_with (go_at_call 11; refine Cz.mono ?_; rintro e w1 ⟨rfl, he1⟩)
    go_ret
    exact ⟨rfl, e0.trans he1⟩
  rw [dec_pos hbig] at Cz
  have HPp : Hid (p.size < lim) := Lib.hid (by unfold lim; omega)
  have hd0 : ¬ (1048576 : Int) - ((bkHds s + bkIts t + bkSns l : Nat) : Int) < 0 := by omega
  have Hbs : Hid (bkHds s ≤ 1048576) := Lib.hid (by omega)
  have Hbt : Hid (bkIts t ≤ 1048576) := Lib.hid (by omega)
  have Hbn : Hid (bkSns l ≤ 1048576) := Lib.hid (by omega)
  generalize (1048576 : Int) - ((bkHds s + bkIts t + bkSns l : Nat) : Int) = D at *
  clear hbig
  go_enter Tryz.func3, Tryz.ntmps3
  go_wp2_with (go_at_call 11; refine Cz.mono ?_; rintro e w1 ⟨rfl, he1⟩; have q0 := d0 w1 he1; have q1 := d1 w1 he1; have q2 := d2 w1 he1)
  have E1 := Lib.hid (e0.trans he1)
  have F0 := fun W (e : Ext w1 W) => d0 W (he1.trans e)
  have F1 := fun W (e : Ext w1 W) => d1 W (he1.trans e)
  have F2 := fun W (e : Ext w1 W) => d2 W (he1.trans e)
  clear Cz d0 d1 d2 he1 e0 hFp
  -- the reference's answer
  refine (toDisk_c w1 (HS.out.ext E1.out) (HT.out.ext E1.out) (HN.out.ext E1.out) Hbs.out Hbt.out Hbn.out).mono ?_
  rintro e w2 ⟨r2, rfl, hV2, he2⟩
  obtain ⟨p1, p2, p3, rfl, hH2, hI2, hN2⟩ := hV2.plain
  have Cs := specCountOnly_c p w2 hH2 hI2 hN2
  clear hV2 hH2 hI2 hN2 q0 q1 q2
  go_wp2_with fail
  refine Cs.mono ?_
  rintro e w3 ⟨rfl, he3⟩
  have e13 := he2.trans he3
  have E3 := Lib.hid (E1.out.trans e13)
  have q0 := F0 w3 e13; have q1 := F1 w3 e13; have q2 := F2 w3 e13
  have G0 := fun W (e : Ext w3 W) => F0 W (e13.trans e)
  have G1 := fun W (e : Ext w3 W) => F1 W (e13.trans e)
  have G2 := fun W (e : Ext w3 W) => F2 W (e13.trans e)
  clear Cs F0 F1 F2 he2 he3 e13
  -- the program's answer
  go_wp2_with fail
  refine (toDisk_c w3 (HS.out.ext E3.out) (HT.out.ext E3.out) (HN.out.ext E3.out) Hbs.out Hbt.out Hbn.out).mono ?_
  rintro e w4 ⟨r4, rfl, hV4, he4⟩
  obtain ⟨x1, x2, x3, rfl, hH4, hI4, hN4⟩ := hV4.plain
  have HH4 := Lib.hid hH4; have HI4 := Lib.hid hI4; have HN4 := Lib.hid hN4
  obtain ⟨Ax, cx, rfl, -⟩ := hH4
  obtain ⟨Ay, cy, rfl, -⟩ := hI4
  obtain ⟨Au, cu, rfl, -⟩ := hN4
  have e5 : Ext w3 (w4.alloc (.cells #[.slice Ax s.length cx, .slice Ay t.length cy, .slice Au l.length cu] 33)) := he4.alloc _
  have e45 : Ext w4 (w4.alloc (.cells #[.slice Ax s.length cx, .slice Ay t.length cy, .slice Au l.length cu] 33)) := (Ext.refl w4).alloc _
  have hbx := Blk.new w4 33 #[.slice Ax s.length cx, .slice Ay t.length cy, .slice Au l.length cu]
  have X0 := fun W (e : Ext _ W) => hbx.at_ (i := 0) (u := .slice Ax s.length cx) rfl W e
  have X1 := fun W (e : Ext _ W) => hbx.at_ (i := 1) (u := .slice Ay t.length cy) rfl W e
  have X2 := fun W (e : Ext _ W) => hbx.at_ (i := 2) (u := .slice Au l.length cu) rfl W e
  have Cv := CountOnly_c p _ (HH4.out.ext e45) (HI4.out.ext e45) (HN4.out.ext e45) HPp.out (HM.out.ext (E3.out.trans e5)) (HET.out.ext (E3.out.trans e5))
  clear hV4 hbx q0 q1 q2
  generalize countOn s t l p = bb at *
  go_wp2_with fail
  refine Cv.mono ?_
  rintro e w5 ⟨rfl, he5⟩
  have e35 := e5.trans he5
  have E5 := Lib.hid (E3.out.trans e35)
  have HH5 := Lib.hid (HH4.out.ext (e45.trans he5)); have HI5 := Lib.hid (HI4.out.ext (e45.trans he5)); have HN5 := Lib.hid (HN4.out.ext (e45.trans he5))
  have x0 := fun W (e : Ext w5 W) => X0 W (he5.trans e)
  have x1 := fun W (e : Ext w5 W) => X1 W (he5.trans e)
  have x2 := fun W (e : Ext w5 W) => X2 W (he5.trans e)
  have a0 := fun W (e : Ext w5 W) => G0 W (e35.trans e)
  have a1 := fun W (e : Ext w5 W) => G1 W (e35.trans e)
  have a2 := fun W (e : Ext w5 W) => G2 W (e35.trans e)
  clear Cv X0 X1 X2 G0 G1 G2 he4 he5 e5 e45 e35 HH4 HI4 HN4
  go_wp2
  refine wp_region_hold (fun W => (W.cell? ⟨w4.heap.size, 0, none⟩ = some (.slice Ax s.length cx) ∧ W.cell? ⟨w4.heap.size, 1, none⟩ = some (.slice Ay t.length cy) ∧ W.cell? ⟨w4.heap.size, 2, none⟩ = some (.slice Au l.length cu)) ∧ W.cell? ⟨w.heap.size, 0, none⟩ = some (.slice A s.length c) ∧ W.cell? ⟨w.heap.size, 1, none⟩ = some (.slice A2 t.length c2) ∧ W.cell? ⟨w.heap.size, 2, none⟩ = some (.slice A3 l.length c3)) 3 [(0, true), (1, true), (2, false)] (by kernel_rfl) (by kernel_rfl) ?_ ?_
  · exact ⟨⟨x0 _ (Ext.refl _).drew, x1 _ (Ext.refl _).drew, x2 _ (Ext.refl _).drew⟩, a0 _ (Ext.refl _).drew, a1 _ (Ext.refl _).drew, a2 _ (Ext.refl _).drew⟩
  (repeat (first | (apply hw_read (by rfl) (by rfl); (· (intro W hW; (try dsimp only at hW); go_simp; (first | done | rfl | (rw [if_pos] <;> first | omega | rfl)))); (try simp only [Act.put, List.setIfInBounds_toArray, List.set_cons_zero, List.set_cons_succ])) | (refine hw_skip (by rfl) (by rfl) ?_; (try simp only [Act.put, List.setIfInBounds_toArray, List.set_cons_zero, List.set_cons_succ]))))
  refine hw_step (by rfl) ?_
  go_wp2_with (go_at_call 13; refine (toDisk_c _ (HS.out.ext E5.out.drew) (HT.out.ext E5.out.drew) (HN.out.ext E5.out.drew) Hbs.out Hbt.out Hbn.out).mono ?_; rintro e w6 ⟨r6, rfl, hV6, he6⟩; obtain ⟨y1, y2, y3, rfl, hH6, hI6, hN6⟩ := hV6.plain)
  have e56 : Ext w5 w6 := (Ext.refl w5).drew.trans he6
  have Ce := eqDisk_same w6 (HH5.out.ext e56) (HI5.out.ext e56) (HN5.out.ext e56) hH6 hI6 hN6
  refine ⟨⟨⟨x0 _ e56, x1 _ e56, x2 _ e56⟩, a0 _ e56, a1 _ e56, a2 _ e56⟩, ?_⟩
  clear hV6 hH6 hI6 hN6 x0 x1 x2 a0 a1 a2
  (try (repeat (first | (apply hw_read (by rfl) (by rfl); (· (intro W hW; (try dsimp only at hW); go_simp; (first | done | rfl | (rw [if_pos] <;> first | omega | rfl)))); (try simp only [Act.put, List.setIfInBounds_toArray, List.set_cons_zero, List.set_cons_succ])) | (refine hw_skip (by rfl) (by rfl) ?_; (try simp only [Act.put, List.setIfInBounds_toArray, List.set_cons_zero, List.set_cons_succ])))))
  (refine hw_nil ?_; (try simp only [List.drop_succ_cons, List.drop_zero]))
  go_wp2_with (go_at_call 15; refine Ce.mono ?_; rintro e w7 ⟨rfl, he7⟩)
  refine NoPanic.normal ?_
  (try dsimp only [Exit.then])
  go_wp2
  go_ret
  exact ⟨rfl, E5.out.trans (e56.trans he7)⟩
end Go.Sf
