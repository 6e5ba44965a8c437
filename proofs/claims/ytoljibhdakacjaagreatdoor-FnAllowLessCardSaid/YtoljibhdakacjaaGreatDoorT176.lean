/- Disks are drawn, with quotas. -/
import Derived.Test.YtoljibhdakacjaaGreatDoorT168
namespace Go.Sf
open Go Go.RowKit Go.Proofs
set_option maxRecDepth 8000 in
set_option maxHeartbeats 4000000 in
theorem DrawQuotasOver_c {v : Value} {xs : List Int} (w : World) (h : Bys w v xs) : Calls Tryz.prog 15 #[v] w (DrewDQ w) := by
  have hbr := Lib.hid (Blk.new w 27 #[.slice none 0 0, .slice none 0 0, .slice none 0 0])
  have e0 : Ext w (w.alloc (.cells #[.slice none 0 0, .slice none 0 0, .slice none 0 0] 27)) := (Ext.refl w).alloc _
  have hsz : w.heap.size + 1 ≤ (w.alloc (.cells #[.slice none 0 0, .slice none 0 0, .slice none 0 0] 27)).heap.size := by simp
  go_enter Tryz.func15, Tryz.ntmps15
  go_wp2_with fail
  generalize w.alloc (.cells #[.slice none 0 0, .slice none 0 0, .slice none 0 0] 27) = w1 at *
  refine (l6Open_c w1 (h.ext e0)).mono ?_
  rintro e w2 ⟨rb, rfl, hrb, hrb1, hR, he2⟩
  have E2 := e0.trans he2
  have HR := Lib.hid hR
  have HZ := Lib.hid (hbr.out.ext he2)
  clear hR h hbr
  go_wp2_with fail
  refine (l91Disk_c HR.out (by omega)).mono ?_
  rintro e w3 ⟨us, ut, un, q3, rfl, hW, hR3, hq1, hq2, hE3⟩
  have hw2 := E2.size
  have hW := hW.keep hw2
  have HW := Lib.hid hW
  obtain ⟨s, t, l, hS, hT, hN, hb12, hb7, hbl⟩ := hW
  obtain ⟨Au, cu, rfl, -⟩ := id hS
  obtain ⟨At, ct, rfl, -⟩ := id hT
  obtain ⟨An, cn, rfl, -⟩ := id hN
  have HS := Lib.hid hS; have HT := Lib.hid hT; have HN := Lib.hid hN; have HR3 := Lib.hid hR3; have HBL := Lib.hid hbl
  have HZ3 := Lib.hid (hE3.blk HZ.out (by omega))
  have HE3 := Lib.hid hE3
  clear hS hT hN hR3 hE3 HR HZ hbl
  have eB := (Ext.refl w3).alloc (.cells #[.slice Au s.length cu, .slice At t.length ct, .slice An l.length cn] 27)
  have hvb := Blk.new w3 27 #[.slice Au s.length cu, .slice At t.length ct, .slice An l.length cn]
  have HVB := Lib.hid hvb
  have hrb3 : rb < w3.heap.size := HR3.out.lt
  obtain ⟨gv, hgv⟩ : ∃ gv, w3.heap.size = gv := ⟨_, rfl⟩
  rw [hgv] at HVB hrb3
  have HW4 := Lib.hid (HW.out.ext eB); have HS4 := Lib.hid (HS.out.ext eB); have HT4 := Lib.hid (HT.out.ext eB); have HN4 := Lib.hid (HN.out.ext eB); have HR4 := Lib.hid (HR3.out.ext eB); have HZ4 := Lib.hid (HZ3.out.ext eB); have HE4 := Lib.hid (HE3.out.extend eB)
  clear hvb HS HT HN HW HR3 HZ3 HE3 eB
  go_wp2_with fail
  (try rw [hgv])
  clear hgv
  generalize w3.alloc (.cells #[.slice Au s.length cu, .slice At t.length ct, .slice An l.length cn] 27) = w4 at *
  have HVB4 := HVB
  have hv4 := HVB4.out
  have x0 := hv4.cell 0; have x1 := hv4.cell 1; have x2 := hv4.cell 2
  simp at x0 x1 x2
  clear hv4
  clear x0 x1 x2
  have HK : Hid (∀ W, ExtR rb w4 W → W.cell? ⟨gv, 0, none⟩ = some (.slice Au s.length cu) ∧ W.cell? ⟨gv, 1, none⟩ = some (.slice At t.length ct) ∧ W.cell? ⟨gv, 2, none⟩ = some (.slice An l.length cn)) := Lib.hid fun W e => by
    have h1 := e.blk HVB4.out (by omega)
    have c0 := h1.cell 0; have c1 := h1.cell 1; have c2 := h1.cell 2
    simp at c0 c1 c2
    exact ⟨c0, c1, c2⟩
  refine wp_region_hold (fun W => W.cell? ⟨gv, 0, none⟩ = some (.slice Au s.length cu) ∧ W.cell? ⟨gv, 1, none⟩ = some (.slice At t.length ct) ∧ W.cell? ⟨gv, 2, none⟩ = some (.slice An l.length cn)) 3 [(0, true), (1, true), (2, false)] (by kernel_rfl) (by kernel_rfl) ?_ ?_
  · exact HK.out _ ((Ext.refl _).drew.toR rb)
  (repeat (first | (apply hw_read (by rfl) (by rfl); (· (intro W hW; (try dsimp only at hW); go_simp; (first | done | rfl | (rw [if_pos] <;> first | omega | rfl)))); (try simp only [Act.put, List.setIfInBounds_toArray, List.set_cons_zero, List.set_cons_succ])) | (refine hw_skip (by rfl) (by rfl) ?_; (try simp only [Act.put, List.setIfInBounds_toArray, List.set_cons_zero, List.set_cons_succ]))))
  refine hw_step (by rfl) ?_
  go_wp2_with (go_at_call 45; refine (l92Quotas_c (HR4.out.ext (Ext.refl _).drew) (by omega)).mono ?_; rintro e wy ⟨vq, lq, qy, rfl, hIq, hq5, hRy, hqy1, hqy2, hey⟩)
  obtain ⟨Aq, cq, rfl, -⟩ := id hIq
  have Ey : ExtR rb w4 wy := ((Ext.refl w4).drew.toR rb).trans hey
  (try refine ⟨HK.out _ Ey, ?_⟩)
  have hky := HR4.out.keepsT Ey
  have HWy := Lib.hid (HW4.out.keepT hky (by decide) (by decide) (by decide) (by decide))
  have HZy := Lib.hid (Ey.blk HZ4.out (by omega))
  have HEy := Lib.hid (HE4.out.trans Ey)
  have HQy := Lib.hid (hIq.keep (Nat.le_trans hw2 (HE4.out.extend (Ext.refl w4).drew).size) (fun _ _ _ => rfl))
  clear hky hey hIq
  (repeat (first | (apply hw_read (by rfl) (by rfl); (· (intro W hW; (try dsimp only at hW); go_simp; (first | done | rfl | (rw [if_pos] <;> first | omega | rfl)))); (try simp only [Act.put, List.setIfInBounds_toArray, List.set_cons_zero, List.set_cons_succ])) | (refine hw_skip (by rfl) (by rfl) ?_; (try simp only [Act.put, List.setIfInBounds_toArray, List.set_cons_zero, List.set_cons_succ]))))
  have hz9 := HZy.out
  have c90 := hz9.cell 0; have c91 := hz9.cell 1; have c92 := hz9.cell 2; have f90 := hz9.frozen 0; have f91 := hz9.frozen 1; have f92 := hz9.frozen 2
  simp at c90 c91 c92
  (refine hw_nil ?_; (try simp only [List.drop_succ_cons, List.drop_zero]))
  go_wp2
  refine NoPanic.normal ?_
  (try dsimp only [Exit.then])
  go_wp2
  obtain ⟨p1, p2, p3, -⟩ := put_three (a := .slice Au s.length cu) (b := .slice At t.length ct) (c := .slice An l.length cn) hz9
  have z0 := p1.cell 0; have z1 := p1.cell 1; have z2 := p1.cell 2
  simp at z0 z1 z2
  exact bodyPost_ret (v := .tuple #[.agg #[.slice Au s.length cu, .slice At t.length ct, .slice An l.length cn], .slice Aq lq.length cq]) (by simp [results, Tryz.results15, go_sem, z0, z1, z2]) rfl ⟨_, _, _, _, lq, rfl, HWy.out.keepT p2 (by decide) (by decide) (by decide) (by decide), HQy.out.keepT p2 (by decide), hq5, p3 w (HEy.out.ext E2 (by omega)) (Nat.le_refl _)⟩
set_option maxRecDepth 8000 in
set_option maxHeartbeats 4000000 in
theorem DrawQuotasAllow_c {v : Value} {xs : List Int} (w : World) (h : Bys w v xs) : Calls Tryz.prog 22 #[v] w (DrewDA w) := by
  have hbr := Lib.hid (Blk.new w 27 #[.slice none 0 0, .slice none 0 0, .slice none 0 0])
  have e0 : Ext w (w.alloc (.cells #[.slice none 0 0, .slice none 0 0, .slice none 0 0] 27)) := (Ext.refl w).alloc _
  have hsz : w.heap.size + 1 ≤ (w.alloc (.cells #[.slice none 0 0, .slice none 0 0, .slice none 0 0] 27)).heap.size := by simp
  go_enter Tryz.func22, Tryz.ntmps22
  go_wp2_with fail
  generalize w.alloc (.cells #[.slice none 0 0, .slice none 0 0, .slice none 0 0] 27) = w1 at *
  refine (l6Open_c w1 (h.ext e0)).mono ?_
  rintro e w2 ⟨rb, rfl, hrb, hrb1, hR, he2⟩
  have E2 := e0.trans he2
  have HR := Lib.hid hR
  have HZ := Lib.hid (hbr.out.ext he2)
  clear hR h hbr
  go_wp2_with fail
  refine (l91Disk_c HR.out (by omega)).mono ?_
  rintro e w3 ⟨us, ut, un, q3, rfl, hW, hR3, hq1, hq2, hE3⟩
  have hw2 := E2.size
  have hW := hW.keep hw2
  have HW := Lib.hid hW
  obtain ⟨s, t, l, hS, hT, hN, hb12, hb7, hbl⟩ := hW
  obtain ⟨Au, cu, rfl, -⟩ := id hS
  obtain ⟨At, ct, rfl, -⟩ := id hT
  obtain ⟨An, cn, rfl, -⟩ := id hN
  have HS := Lib.hid hS; have HT := Lib.hid hT; have HN := Lib.hid hN; have HR3 := Lib.hid hR3; have HBL := Lib.hid hbl
  have HZ3 := Lib.hid (hE3.blk HZ.out (by omega))
  have HE3 := Lib.hid hE3
  clear hS hT hN hR3 hE3 HR HZ hbl
  have eB := (Ext.refl w3).alloc (.cells #[.slice Au s.length cu, .slice At t.length ct, .slice An l.length cn] 27)
  have hvb := Blk.new w3 27 #[.slice Au s.length cu, .slice At t.length ct, .slice An l.length cn]
  have HVB := Lib.hid hvb
  have hrb3 : rb < w3.heap.size := HR3.out.lt
  obtain ⟨gv, hgv⟩ : ∃ gv, w3.heap.size = gv := ⟨_, rfl⟩
  rw [hgv] at HVB hrb3
  have HW4 := Lib.hid (HW.out.ext eB); have HS4 := Lib.hid (HS.out.ext eB); have HT4 := Lib.hid (HT.out.ext eB); have HN4 := Lib.hid (HN.out.ext eB); have HR4 := Lib.hid (HR3.out.ext eB); have HZ4 := Lib.hid (HZ3.out.ext eB); have HE4 := Lib.hid (HE3.out.extend eB)
  clear hvb HS HT HN HW HR3 HZ3 HE3 eB
  go_wp2_with fail
  (try rw [hgv])
  clear hgv
  generalize w3.alloc (.cells #[.slice Au s.length cu, .slice At t.length ct, .slice An l.length cn] 27) = w4 at *
  refine (l92Quotas_c HR4.out (by omega)).mono ?_
  rintro e w5 ⟨vq, lq, q5, rfl, hIq, hq5, hR5, hq51, hq52, he5⟩
  obtain ⟨Aq, cq, rfl, -⟩ := id hIq
  have hk5 := HR4.out.keepsT he5
  have HR5 := Lib.hid hR5
  have HW5 := Lib.hid (HW4.out.keepT hk5 (by decide) (by decide) (by decide) (by decide)); have HT5 := Lib.hid (HT4.out.keepT hk5 (by decide) (by decide))
  have HZ5 := Lib.hid (he5.blk HZ4.out (by omega)); have HE5 := Lib.hid (HE4.out.trans he5); have HVB5 := Lib.hid (he5.blk HVB.out (by omega))
  have HQ5 := Lib.hid (hIq.keep (Nat.le_trans hw2 HE4.out.size) (fun _ _ _ => rfl))
  clear hk5 hIq hR5 he5
  have HK : Hid (∀ W, ExtR rb w5 W → W.cell? ⟨gv, 0, none⟩ = some (.slice Au s.length cu) ∧ W.cell? ⟨gv, 1, none⟩ = some (.slice At t.length ct) ∧ W.cell? ⟨gv, 2, none⟩ = some (.slice An l.length cn)) := Lib.hid fun W e => by
    have h1 := e.blk HVB5.out (by omega)
    have c0 := h1.cell 0; have c1 := h1.cell 1; have c2 := h1.cell 2
    simp at c0 c1 c2
    exact ⟨c0, c1, c2⟩
  go_wp2
  refine wp_region_hold (fun W => W.cell? ⟨gv, 0, none⟩ = some (.slice Au s.length cu) ∧ W.cell? ⟨gv, 1, none⟩ = some (.slice At t.length ct) ∧ W.cell? ⟨gv, 2, none⟩ = some (.slice An l.length cn)) 16 [(0, true), (1, true), (2, true), (3, true), (4, true), (6, true), (8, true), (5, false), (7, false), (9, false), (10, true), (11, true), (12, true), (13, false), (14, true), (15, true)] (by kernel_rfl) (by kernel_rfl) ?_ ?_
  · exact HK.out _ ((Ext.refl _).drew.toR rb)
  (repeat (first | (apply hw_read (by rfl) (by rfl); (· (intro W hW; (try dsimp only at hW); go_simp; (first | done | rfl | (rw [if_pos] <;> first | omega | rfl)))); (try simp only [Act.put, List.setIfInBounds_toArray, List.set_cons_zero, List.set_cons_succ])) | (refine hw_skip (by rfl) (by rfl) ?_; (try simp only [Act.put, List.setIfInBounds_toArray, List.set_cons_zero, List.set_cons_succ]))))
  refine hw_step (by rfl) ?_
  go_wp2_with (go_at_call 59; refine (l91At_c (HR5.out.ext (Ext.refl _).drew) (by omega) (HR5.out.ext (Ext.refl _).drew).lt (HT5.out.ext (Ext.refl _).drew) (by omega)).mono ?_; rintro e wy ⟨pp, qy, rfl, hpp, hRy, hqy1, hqy2, hey⟩)
  have Ey : ExtR rb w5 wy := ((Ext.refl w5).drew.toR rb).trans hey
  (try refine ⟨HK.out _ Ey, ?_⟩)
  have HRy := Lib.hid hRy
  clear hey hRy
  (repeat (first | (apply hw_read (by rfl) (by rfl); (· (intro W hW; (try dsimp only at hW); go_simp; (first | done | rfl | (rw [if_pos] <;> first | omega | rfl)))); (try simp only [Act.put, List.setIfInBounds_toArray, List.set_cons_zero, List.set_cons_succ])) | (refine hw_skip (by rfl) (by rfl) ?_; (try simp only [Act.put, List.setIfInBounds_toArray, List.set_cons_zero, List.set_cons_succ]))))
  refine hw_step (by rfl) ?_
  go_wp2_with (go_at_call 60; refine (pick_c 34 HRy.out (by omega) (by omega)).mono ?_; rintro e wu ⟨vu, rfl, hu0, hu34, -, hRu, heu⟩)
  have Eu := Ey.trans heu
  (try refine ⟨HK.out _ Eu, ?_⟩)
  have HRu := Lib.hid hRu
  have hu34 := hu34 (by omega)
  clear heu hRu
  (repeat (first | (apply hw_read (by rfl) (by rfl); (· (intro W hW; (try dsimp only at hW); go_simp; (first | done | rfl | (rw [if_pos] <;> first | omega | rfl)))); (try simp only [Act.put, List.setIfInBounds_toArray, List.set_cons_zero, List.set_cons_succ])) | (refine hw_skip (by rfl) (by rfl) ?_; (try simp only [Act.put, List.setIfInBounds_toArray, List.set_cons_zero, List.set_cons_succ]))))
  refine hw_step (by rfl) ?_
  go_wp2_with (go_at_call 60; refine (pick_c 30 HRu.out (by omega) (by omega)).mono ?_; rintro e wx ⟨vx, rfl, hx0, hx30, -, hRx, hex⟩)
  have Ex := Eu.trans hex
  (try refine ⟨HK.out _ Ex, ?_⟩)
  have hx30 := hx30 (by omega)
  clear hex hRx
  have hkx := HR5.out.keepsT Ex
  have HWx := Lib.hid (HW5.out.keepT hkx (by decide) (by decide) (by decide) (by decide)); have HQx := Lib.hid (HQ5.out.keepT hkx (by decide))
  have HZx := Lib.hid (Ex.blk HZ5.out (by omega)); have HEx := Lib.hid (HE5.out.trans Ex)
  clear hkx
  (repeat (first | (apply hw_read (by rfl) (by rfl); (· (intro W hW; (try dsimp only at hW); go_simp; (first | done | rfl | (rw [if_pos] <;> first | omega | rfl)))); (try simp only [Act.put, List.setIfInBounds_toArray, List.set_cons_zero, List.set_cons_succ])) | (refine hw_skip (by rfl) (by rfl) ?_; (try simp only [Act.put, List.setIfInBounds_toArray, List.set_cons_zero, List.set_cons_succ]))))
  have hz9 := HZx.out
  have c90 := hz9.cell 0; have c91 := hz9.cell 1; have c92 := hz9.cell 2; have f90 := hz9.frozen 0; have f91 := hz9.frozen 1; have f92 := hz9.frozen 2
  simp at c90 c91 c92
  obtain ⟨p1, p2, p3, p4⟩ := put_three (a := .slice Au s.length cu) (b := .slice At t.length ct) (c := .slice An l.length cn) hz9
  have hV8 := (p4 gv (by omega)).trans (Ex.blk HVB5.out (by omega))
  have y0 := Blk.cell hV8 0; have y1 := Blk.cell hV8 1; have y2 := Blk.cell hV8 2
  have z0 := p1.cell 0; have z1 := p1.cell 1; have z2 := p1.cell 2
  simp at z0 z1 z2 y0 y1 y2
  clear p4 hV8
  refine hw_step (by rfl) ?_
  go_wp2
  (try refine ⟨⟨y0, y1, y2⟩, ?_⟩)
  (try (repeat (first | (apply hw_read (by rfl) (by rfl); (· (intro W hW; (try dsimp only at hW); go_simp; (first | done | rfl | (rw [if_pos] <;> first | omega | rfl)))); (try simp only [Act.put, List.setIfInBounds_toArray, List.set_cons_zero, List.set_cons_succ])) | (refine hw_skip (by rfl) (by rfl) ?_; (try simp only [Act.put, List.setIfInBounds_toArray, List.set_cons_zero, List.set_cons_succ])))))
  (refine hw_nil ?_; (try simp only [List.drop_succ_cons, List.drop_zero]))
  go_wp2
  (try refine NoPanic.normal ?_)
  (try dsimp only [Exit.then])
  (try go_wp2)
  have hd : vx.tdiv 29 = vx / 29 := Int.tdiv_eq_ediv_of_nonneg hx0
  have hw1 : IntKind.i64.wrap (vx / 29) = vx / 29 := IntWalk.i64_in _ (by omega)
  have hw3 : IntKind.i64.wrap (vx / 29 * 34) = vx / 29 * 34 := IntWalk.i64_in _ (by omega)
  have hw4 : IntKind.i64.wrap (vu - vx / 29 * 34) = vu - vx / 29 * 34 := IntWalk.i64_in _ (by omega)
  simp only [hd, hw1, hw3, hw4]
  exact bodyPost_ret (v := .tuple #[.agg #[.slice Au s.length cu, .slice At t.length ct, .slice An l.length cn], .slice Aq lq.length cq, .string pp, .int .i64 (vu - vx / 29 * 34)]) (by simp [results, Tryz.results22, go_sem, z0, z1, z2]) rfl ⟨_, _, _, _, lq, _, _, rfl, HWx.out.keepT p2 (by decide) (by decide) (by decide) (by decide), HQx.out.keepT p2 (by decide), hq5, hpp, by omega, by omega, p3 w (HEx.out.ext E2 (by omega)) (Nat.le_refl _)⟩
end Go.Sf
