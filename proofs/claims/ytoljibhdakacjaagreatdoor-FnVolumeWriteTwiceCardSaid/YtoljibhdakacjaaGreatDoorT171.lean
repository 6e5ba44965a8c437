/- A volume is drawn, with a path and bytes. -/
import Derived.Test.YtoljibhdakacjaaGreatDoorHB
namespace Go.Sf
open Go Go.RowKit Go.Proofs
/-- a drawn volume, a path and bytes -/
def DrewVW (w : World) (e : Ending) (w' : World) : Prop := ∃ us ut s t p vb bs, e = .returned (.tuple #[.agg #[us, ut], .string p, vb]) ∧ Hds w.heap.size w' us s ∧ Its w.heap.size w' ut t ∧ s.length ≤ 16 ∧ t.length ≤ 12 ∧ p.size < lim ∧ Ints w.heap.size w' vb bs ∧ bs.length ≤ 33 ∧ Ext w w'
set_option maxRecDepth 8000 in
set_option maxHeartbeats 2000000 in
theorem DrawVolumeWrite_c {v : Value} {xs : List Int} (w : World) (h : Bys w v xs) : Calls Tryz.prog 32 #[v] w (DrewVW w) := by
  have hbr := Lib.hid (Blk.new w 61 #[.slice none 0 0, .slice none 0 0])
  have e0 : Ext w (w.alloc (.cells #[.slice none 0 0, .slice none 0 0] 61)) := (Ext.refl w).alloc _
  have hsz : w.heap.size + 1 ≤ (w.alloc (.cells #[.slice none 0 0, .slice none 0 0] 61)).heap.size := by simp
  go_enter Tryz.func32, Tryz.ntmps32
  go_wp2_with fail
  generalize w.alloc (.cells #[.slice none 0 0, .slice none 0 0] 61) = w1 at *
  refine (l6Open_c w1 (h.ext e0)).mono ?_
  rintro e w2 ⟨rb, rfl, hrb, hrb1, hR, he2⟩
  have E2 := e0.trans he2
  have HR := Lib.hid hR
  have HZ := Lib.hid (hbr.out.ext he2)
  clear hR h hbr
  go_wp2_with fail
  refine (l91Volume_c HR.out (by omega)).mono ?_
  rintro e w3 ⟨us, ut, s, t, q3, rfl, hS, hT, hs16, ht12, hR3, hq1, hq2, hE3⟩
  obtain ⟨Au, cu, rfl, -⟩ := id hS
  obtain ⟨At, ct, rfl, -⟩ := id hT
  have hw2 := E2.size
  have HS := Lib.hid (hS.keep hw2 (fun _ _ _ => rfl)); have HT := Lib.hid (hT.keep hw2 (fun _ _ _ => rfl)); have HR3 := Lib.hid hR3
  have HZ3 := Lib.hid (hE3.blk HZ.out (by omega))
  have HE3 := Lib.hid hE3
  clear hS hT hR3 hE3 HR HZ
  have eB := (Ext.refl w3).alloc (.cells #[.slice Au s.length cu, .slice At t.length ct] 61)
  have hvb := Blk.new w3 61 #[.slice Au s.length cu, .slice At t.length ct]
  have HVB := Lib.hid hvb
  have hrb3 : rb < w3.heap.size := HR3.out.lt
  have hgv : ∃ gv, w3.heap.size = gv := ⟨_, rfl⟩
  obtain ⟨gv, hgv⟩ := hgv
  rw [hgv] at HVB hvb hrb3
  have HS4 := Lib.hid (HS.out.ext eB); have HT4 := Lib.hid (HT.out.ext eB); have HR4 := Lib.hid (HR3.out.ext eB); have HZ4 := Lib.hid (HZ3.out.ext eB); have HE4 := Lib.hid (HE3.out.extend eB)
  go_wp2
  generalize w3.alloc (.cells #[.slice Au s.length cu, .slice At t.length ct] 61) = w4 at *
  have HK : Hid (∀ W, ExtR rb w4 W → W.cell? ⟨gv, 0, none⟩ = some (.slice Au s.length cu) ∧ W.cell? ⟨gv, 1, none⟩ = some (.slice At t.length ct)) := Lib.hid fun W e => by
    have h1 := e.blk HVB.out (by omega)
    have c0 := h1.cell 0; have c1 := h1.cell 1
    simp at c0 c1
    exact ⟨c0, c1⟩
  clear hvb HS HT HR3 HZ3 HE3 eB
  (try rw [hgv])
  refine wp_region_hold (fun W => W.cell? ⟨gv, 0, none⟩ = some (.slice Au s.length cu) ∧ W.cell? ⟨gv, 1, none⟩ = some (.slice At t.length ct)) 7 [(0, true), (1, true), (2, true), (3, true), (5, true), (4, false), (6, false)] (by kernel_rfl) (by kernel_rfl) ?_ ?_
  · exact HK.out _ ((Ext.refl _).drew.toR rb)
  (repeat (first | (apply hw_read (by rfl) (by rfl); (· (intro W hW; (try dsimp only at hW); go_simp; (first | done | rfl | (rw [if_pos] <;> first | omega | rfl)))); (try simp only [Act.put, List.setIfInBounds_toArray, List.set_cons_zero, List.set_cons_succ])) | (refine hw_skip (by rfl) (by rfl) ?_; (try simp only [Act.put, List.setIfInBounds_toArray, List.set_cons_zero, List.set_cons_succ]))))
  refine hw_step (by rfl) ?_
  go_wp2_with (go_at_call 59; refine (l91At_c (HR4.out.ext (Ext.refl _).drew) (by omega) (HR4.out.ext (Ext.refl _).drew).lt (HT4.out.ext (Ext.refl _).drew) (by omega)).mono ?_; rintro e wy ⟨pp, qy, rfl, hpp, hRy, hqy1, hqy2, hey⟩)
  have Ey : ExtR rb w4 wy := ((Ext.refl w4).drew.toR rb).trans hey
  (try refine ⟨HK.out _ Ey, ?_⟩)
  have hky := HR4.out.keepsT Ey
  have HSy := Lib.hid (HS4.out.keepT hky (by decide) (by decide))
  have HTy := Lib.hid (HT4.out.keepT hky (by decide) (by decide))
  have HZy := Lib.hid (Ey.blk HZ4.out (by omega))
  have HEy := Lib.hid (HE4.out.trans Ey)
  have HRy := Lib.hid hRy
  clear hky hey hRy
  (repeat (first | (apply hw_read (by rfl) (by rfl); (· (intro W hW; (try dsimp only at hW); go_simp; (first | done | rfl | (rw [if_pos] <;> first | omega | rfl)))); (try simp only [Act.put, List.setIfInBounds_toArray, List.set_cons_zero, List.set_cons_succ])) | (refine hw_skip (by rfl) (by rfl) ?_; (try simp only [Act.put, List.setIfInBounds_toArray, List.set_cons_zero, List.set_cons_succ]))))
  refine hw_step (by rfl) ?_
  go_wp2_with (go_at_call 75; refine (l91File_c HRy.out (by omega)).mono ?_; rintro e wz ⟨vb, bs, qz, rfl, hIb, hb33, hRz, hqz1, hqz2, hez⟩)
  have Ez := Ey.trans hez
  (try refine ⟨HK.out _ Ez, ?_⟩)
  have hkz := HRy.out.keepsT hez
  have HSz := Lib.hid (HSy.out.keepT hkz (by decide) (by decide))
  have HTz := Lib.hid (HTy.out.keepT hkz (by decide) (by decide))
  have HZz := Lib.hid (hez.blk HZy.out (by omega))
  have HEz := Lib.hid (HEy.out.trans hez)
  have hwy : w.heap.size ≤ wy.heap.size := Nat.le_trans hw2 HEy.out.size
  have HBz := Lib.hid (hIb.keep hwy (fun _ _ _ => rfl))
  obtain ⟨Ab, cb, rfl, -⟩ := hIb
  clear hkz hez hRz
  (repeat (first | (apply hw_read (by rfl) (by rfl); (· (intro W hW; (try dsimp only at hW); go_simp; (first | done | rfl | (rw [if_pos] <;> first | omega | rfl)))); (try simp only [Act.put, List.setIfInBounds_toArray, List.set_cons_zero, List.set_cons_succ])) | (refine hw_skip (by rfl) (by rfl) ?_; (try simp only [Act.put, List.setIfInBounds_toArray, List.set_cons_zero, List.set_cons_succ]))))
  have hz9 := HZz.out
  have c90 := hz9.cell 0; have c91 := hz9.cell 1; have f90 := hz9.frozen 0; have f91 := hz9.frozen 1
  simp at c90 c91
  (refine hw_nil ?_; (try simp only [List.drop_succ_cons, List.drop_zero]))
  go_wp2
  refine NoPanic.normal ?_
  (try dsimp only [Exit.then])
  go_wp2
  obtain ⟨p1, p2, p3, -⟩ := put_two (a := .slice Au s.length cu) (b := .slice At t.length ct) hz9
  have z0 := p1.cell 0; have z1 := p1.cell 1
  simp at z0 z1
  refine bodyPost_ret (v := .tuple #[.agg #[.slice Au s.length cu, .slice At t.length ct], .string pp, .slice Ab bs.length cb]) (by simp [results, Tryz.results32, go_sem, z0, z1]) rfl ⟨_, _, s, t, pp, _, bs, rfl, HSz.out.keepT p2 (by decide) (by decide), HTz.out.keepT p2 (by decide) (by decide), hs16, ht12, hpp, HBz.out.keepT p2 (by decide), hb33, p3 w (HEz.out.ext E2 (by omega)) (Nat.le_refl _)⟩
end Go.Sf
