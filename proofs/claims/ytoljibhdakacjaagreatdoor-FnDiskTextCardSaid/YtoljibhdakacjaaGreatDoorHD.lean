/- A turn with a disk is drawn. -/
import Derived.Test.YtoljibhdakacjaaGreatDoorHB
/-! A turn with a disk is drawn. -/
namespace Go.Sf
open Go Go.RowKit Go.Proofs
/-- a drawn turn: a disk, small, and a word -/
def DrewTn (rb : Nat) (w : World) (q : Int) (e : Ending) (w' : World) : Prop := ∃ us ut un b q', e = .returned (.tuple #[.agg #[us, ut, un], .bool b]) ∧ WDk w.heap.size us ut un w' ∧ Rd rb w' q' ∧ q ≤ q' ∧ q' ≤ q + 110 ∧ ExtR rb w w'
set_option maxRecDepth 8000 in
set_option maxHeartbeats 4000000 in
theorem l91Turn_c {rb B B' B2 : Nat} {vs vt vn : Value} {s : List Hd} {t : List It} {l : List Sn} {w : World} {q : Int} (h : Rd rb w q) (hq : q ≤ 1000000000) (hs : Hds B w vs s) (ht : Its B' w vt t) (hn : Sns B2 w vn l) : Calls Tryz.prog 95 #[.pointer (some ⟨rb, 0, none⟩), .agg #[vs, vt, vn]] w (DrewTn rb w q) := by
  have H := Lib.hid h; have HS := Lib.hid hs; have HT := Lib.hid ht; have HN := Lib.hid hn
  have hrb := h.lt
  obtain ⟨A, c, rfl, -⟩ := hs
  obtain ⟨A2, c2, rfl, -⟩ := ht
  obtain ⟨A3, c3, rfl, -⟩ := hn
  clear h
  have hbk := Lib.hid ((Blk.new w 27 #[.slice A s.length c, .slice A2 t.length c2, .slice A3 l.length c3]).alloc (.cells #[.slice none 0 0, .slice none 0 0, .slice none 0 0] 27))
  have hbr : Hid (Blk ((w.alloc (.cells #[.slice A s.length c, .slice A2 t.length c2, .slice A3 l.length c3] 27)).alloc (.cells #[.slice none 0 0, .slice none 0 0, .slice none 0 0] 27)) (w.heap.size + 1) 27 #[.slice none 0 0, .slice none 0 0, .slice none 0 0]) := Lib.hid (by
    have := Blk.new (w.alloc (.cells #[.slice A s.length c, .slice A2 t.length c2, .slice A3 l.length c3] 27)) 27 #[.slice none 0 0, .slice none 0 0, .slice none 0 0]
    simpa using this)
  have e0 : Ext w ((w.alloc (.cells #[.slice A s.length c, .slice A2 t.length c2, .slice A3 l.length c3] 27)).alloc (.cells #[.slice none 0 0, .slice none 0 0, .slice none 0 0] 27)) := ((Ext.refl w).alloc _).alloc _
  have hsz : w.heap.size + 2 ≤ ((w.alloc (.cells #[.slice A s.length c, .slice A2 t.length c2, .slice A3 l.length c3] 27)).alloc (.cells #[.slice none 0 0, .slice none 0 0, .slice none 0 0] 27)).heap.size := by simp
  go_enter Tryz.func95, Tryz.ntmps95
  go_wp2_with fail
  generalize (w.alloc (.cells #[.slice A s.length c, .slice A2 t.length c2, .slice A3 l.length c3] 27)).alloc (.cells #[.slice none 0 0, .slice none 0 0, .slice none 0 0] 27) = w2 at *
  have hR2 := H.out.ext e0
  refine (pick_c 6 hR2 (by omega) (by omega)).mono ?_
  rintro e w3 ⟨v3, rfl, h30, h37, -, hR3, he3⟩
  have HE3 := Lib.hid ((e0.toR rb).trans he3)
  have HR3 := Lib.hid hR3
  have hkT := hR2.keepsT he3
  have HS3 := Lib.hid ((HS.out.ext e0).keepT hkT (by decide) (by decide))
  have HT3 := Lib.hid ((HT.out.ext e0).keepT hkT (by decide) (by decide))
  have HN3 := Lib.hid ((HN.out.ext e0).keepT hkT (by decide) (by decide) (by decide))
  have HK : Hid (∀ W, ExtR rb w3 W → (W.cell? ⟨w.heap.size, 0, none⟩ = some (.slice A s.length c) ∧ W.cell? ⟨w.heap.size, 1, none⟩ = some (.slice A2 t.length c2) ∧ W.cell? ⟨w.heap.size, 2, none⟩ = some (.slice A3 l.length c3)) ∧ Blk W (w.heap.size + 1) 27 #[.slice none 0 0, .slice none 0 0, .slice none 0 0]) := Lib.hid fun W e => by
    have h1 := (he3.trans e).blk hbk.out (by omega)
    have h2 := (he3.trans e).blk hbr.out (by omega)
    have c0 := h1.cell 0; have c1 := h1.cell 1; have c2 := h1.cell 2
    simp at c0 c1 c2
    exact ⟨⟨c0, c1, c2⟩, h2⟩
  clear hR2 hR3 he3 hkT h37
  by_cases h0 : v3 = 0
  · subst h0
    go_wp2
    refine wp_region_hold (fun W => W.cell? ⟨w.heap.size, 0, none⟩ = some (.slice A s.length c) ∧ W.cell? ⟨w.heap.size, 1, none⟩ = some (.slice A2 t.length c2) ∧ W.cell? ⟨w.heap.size, 2, none⟩ = some (.slice A3 l.length c3)) 7 [(0, true), (1, true), (2, false), (3, false), (4, false), (5, true), (6, true)] (by kernel_rfl) (by kernel_rfl) ?_ ?_
    · exact (HK.out _ ((Ext.refl _).drew.toR rb)).1
    (repeat (first | (apply hw_read (by rfl) (by rfl); (· (intro W hW; (try dsimp only at hW); go_simp; (first | done | rfl | (rw [if_pos] <;> first | omega | rfl)))); (try simp only [Act.put, List.setIfInBounds_toArray, List.set_cons_zero, List.set_cons_succ])) | (refine hw_skip (by rfl) (by rfl) ?_; (try simp only [Act.put, List.setIfInBounds_toArray, List.set_cons_zero, List.set_cons_succ]))))
    refine hw_step (by rfl) ?_
    go_wp2
    (try refine ⟨(HK.out _ (((Ext.refl _).drew.alloc _).toR rb)).1, ?_⟩)
    refine hw_step (by rfl) ?_
    go_wp2_with (go_at_call 137; refine (of_c (HR3.out.ext ((Ext.refl _).drew.alloc _)) (by omega) (strs_lit (w := w3.drew) (ss := [⟨#[115]⟩, ⟨#[116]⟩, ⟨#[117]⟩]) (by decide) (by decide)) (by decide) (by decide)).mono ?_; rintro e wy ⟨pp, qy, rfl, hpp, hRy, hq1, hq2, hey⟩)
    have Ey : ExtR rb w3 wy := (((Ext.refl w3).drew.alloc _).toR rb).trans hey
    (try refine ⟨(HK.out _ Ey).1, ?_⟩)
    have hky := HR3.out.keepsT Ey
    have HSy := Lib.hid (HS3.out.keepT hky (by decide) (by decide))
    have HTy := Lib.hid (HT3.out.keepT hky (by decide) (by decide))
    have HNy := Lib.hid (HN3.out.keepT hky (by decide) (by decide) (by decide))
    have HRy := Lib.hid hRy
    clear hRy hey hky
    (repeat (first | (apply hw_read (by rfl) (by rfl); (· (intro W hW; (try dsimp only at hW); go_simp; (first | done | rfl | (rw [if_pos] <;> first | omega | rfl)))); (try simp only [Act.put, List.setIfInBounds_toArray, List.set_cons_zero, List.set_cons_succ])) | (refine hw_skip (by rfl) (by rfl) ?_; (try simp only [Act.put, List.setIfInBounds_toArray, List.set_cons_zero, List.set_cons_succ]))))
    refine hw_step (by rfl) ?_
    go_wp2_with (go_at_call 136; refine (SnapTakeW_c _ HSy.out HTy.out HNy.out hpp).mono ?_; rintro e wz ⟨uz, rfl, ⟨us, ut, un, b9b, rfl, s8, t8, l8, hS8, hT8, hN8, ht8, hl8, hlt8⟩, hez⟩)
    have EZ := Ey.extend hez
    (try refine ⟨(HK.out _ EZ).1, ?_⟩)
    obtain ⟨A7, c7, rfl, -⟩ := id hS8
    obtain ⟨A8, c8, rfl, -⟩ := id hT8
    obtain ⟨A9, c9, rfl, -⟩ := id hN8
    have hwy : w.heap.size ≤ wy.heap.size := (HE3.out.trans Ey).size
    have HSz := Lib.hid (hS8.keep hwy (fun _ _ _ => rfl))
    have HTz := Lib.hid (hT8.keep hwy (fun _ _ _ => rfl))
    have HNz := Lib.hid (hN8.keep hwy (fun _ _ _ => rfl))
    have HRz := Lib.hid (HRy.out.ext hez)
    have Hsm := Lib.hid (And.intro ht8 (And.intro hl8 hlt8))
    clear hS8 hT8 hN8 hez ht8 hl8 hlt8
    generalize s8.length = n8 at *
    generalize hn9 : t8.length = n9 at *
    generalize hn10 : l8.length = n10 at *
    have Hn9 := Lib.hid hn9
    have Hn10 := Lib.hid hn10
    clear hn9 hn10
    have b9 := (HK.out _ EZ).2
    have c90 := b9.cell 0; have c91 := b9.cell 1; have c92 := b9.cell 2; have f90 := b9.frozen 0; have f91 := b9.frozen 1; have f92 := b9.frozen 2
    simp at c90 c91 c92
    (repeat (first | (apply hw_read (by rfl) (by rfl); (· (intro W hW; (try dsimp only at hW); go_simp; (first | done | rfl | (rw [if_pos] <;> first | omega | rfl)))); (try simp only [Act.put, List.setIfInBounds_toArray, List.set_cons_zero, List.set_cons_succ])) | (refine hw_skip (by rfl) (by rfl) ?_; (try simp only [Act.put, List.setIfInBounds_toArray, List.set_cons_zero, List.set_cons_succ]))))
    (refine hw_nil ?_; (try simp only [List.drop_succ_cons, List.drop_zero]))
    go_wp2
    refine NoPanic.normal ?_
    (try dsimp only [Exit.then])
    go_wp2
    obtain ⟨p1, p2, -, -⟩ := put_three (a := .slice A7 n8 c7) (b := .slice A8 n9 c8) (c := .slice A9 n10 c9) b9
    have z0 := p1.cell 0; have z1 := p1.cell 1; have z2 := p1.cell 2
    simp at z0 z1 z2
    have hES := (((HE3.out.trans EZ).setNew (p := ⟨w.heap.size + 1, 0, none⟩) (by show _ ≤ w.heap.size + 1; omega) (.slice A7 n8 c7)).setNew (p := ⟨w.heap.size + 1, 1, none⟩) (by show _ ≤ w.heap.size + 1; omega) (.slice A8 n9 c8)).setNew (p := ⟨w.heap.size + 1, 2, none⟩) (by show _ ≤ w.heap.size + 1; omega) (.slice A9 n10 c9)
    refine bodyPost_ret (v := .tuple #[.agg #[.slice A7 n8 c7, .slice A8 n9 c8, .slice A9 n10 c9], .bool b9b]) (by simp [results, Tryz.results95, go_sem, z0, z1, z2]) rfl ⟨_, _, _, _, _, rfl, ⟨s8, t8, l8, HSz.out.keepT p2 (by decide) (by decide), HTz.out.keepT p2 (by decide) (by decide), HNz.out.keepT p2 (by decide) (by decide) (by decide), by rw [Hn9.out, Hn10.out]; exact Hsm.out⟩, HRz.out.keepT p2 (by decide) ((HE3.out.trans EZ).low hES hrb), by omega, by omega, hES⟩
  · have e0 : (v3 == 0) = false := by rw [beq_eq_false_iff_ne]; exact h0
    by_cases h1 : v3 = 1
    · subst h1
      go_wp2
      refine wp_region_hold (fun W => W.cell? ⟨w.heap.size, 0, none⟩ = some (.slice A s.length c) ∧ W.cell? ⟨w.heap.size, 1, none⟩ = some (.slice A2 t.length c2) ∧ W.cell? ⟨w.heap.size, 2, none⟩ = some (.slice A3 l.length c3)) 7 [(0, true), (1, true), (2, false), (3, false), (4, false), (5, true), (6, true)] (by kernel_rfl) (by kernel_rfl) ?_ ?_
      · exact (HK.out _ ((Ext.refl _).drew.toR rb)).1
      (repeat (first | (apply hw_read (by rfl) (by rfl); (· (intro W hW; (try dsimp only at hW); go_simp; (first | done | rfl | (rw [if_pos] <;> first | omega | rfl)))); (try simp only [Act.put, List.setIfInBounds_toArray, List.set_cons_zero, List.set_cons_succ])) | (refine hw_skip (by rfl) (by rfl) ?_; (try simp only [Act.put, List.setIfInBounds_toArray, List.set_cons_zero, List.set_cons_succ]))))
      refine hw_step (by rfl) ?_
      go_wp2
      (try refine ⟨(HK.out _ (((Ext.refl _).drew.alloc _).toR rb)).1, ?_⟩)
      refine hw_step (by rfl) ?_
      go_wp2_with (go_at_call 137; refine (of_c (HR3.out.ext ((Ext.refl _).drew.alloc _)) (by omega) (strs_lit (w := w3.drew) (ss := [⟨#[115]⟩, ⟨#[116]⟩, ⟨#[117]⟩]) (by decide) (by decide)) (by decide) (by decide)).mono ?_; rintro e wy ⟨pp, qy, rfl, hpp, hRy, hq1, hq2, hey⟩)
      have Ey : ExtR rb w3 wy := (((Ext.refl w3).drew.alloc _).toR rb).trans hey
      (try refine ⟨(HK.out _ Ey).1, ?_⟩)
      have hky := HR3.out.keepsT Ey
      have HSy := Lib.hid (HS3.out.keepT hky (by decide) (by decide))
      have HTy := Lib.hid (HT3.out.keepT hky (by decide) (by decide))
      have HNy := Lib.hid (HN3.out.keepT hky (by decide) (by decide) (by decide))
      have HRy := Lib.hid hRy
      clear hRy hey hky
      (repeat (first | (apply hw_read (by rfl) (by rfl); (· (intro W hW; (try dsimp only at hW); go_simp; (first | done | rfl | (rw [if_pos] <;> first | omega | rfl)))); (try simp only [Act.put, List.setIfInBounds_toArray, List.set_cons_zero, List.set_cons_succ])) | (refine hw_skip (by rfl) (by rfl) ?_; (try simp only [Act.put, List.setIfInBounds_toArray, List.set_cons_zero, List.set_cons_succ]))))
      refine hw_step (by rfl) ?_
      go_wp2_with (go_at_call 136; refine (SnapTakeW_c _ HSy.out HTy.out HNy.out hpp).mono ?_; rintro e wz ⟨uz, rfl, ⟨us, ut, un, b9b, rfl, s8, t8, l8, hS8, hT8, hN8, ht8, hl8, hlt8⟩, hez⟩)
      have EZ := Ey.extend hez
      (try refine ⟨(HK.out _ EZ).1, ?_⟩)
      obtain ⟨A7, c7, rfl, -⟩ := id hS8
      obtain ⟨A8, c8, rfl, -⟩ := id hT8
      obtain ⟨A9, c9, rfl, -⟩ := id hN8
      have hwy : w.heap.size ≤ wy.heap.size := (HE3.out.trans Ey).size
      have HSz := Lib.hid (hS8.keep hwy (fun _ _ _ => rfl))
      have HTz := Lib.hid (hT8.keep hwy (fun _ _ _ => rfl))
      have HNz := Lib.hid (hN8.keep hwy (fun _ _ _ => rfl))
      have HRz := Lib.hid (HRy.out.ext hez)
      have Hsm := Lib.hid (And.intro ht8 (And.intro hl8 hlt8))
      clear hS8 hT8 hN8 hez ht8 hl8 hlt8
      generalize s8.length = n8 at *
      generalize hn9 : t8.length = n9 at *
      generalize hn10 : l8.length = n10 at *
      have Hn9 := Lib.hid hn9
      have Hn10 := Lib.hid hn10
      clear hn9 hn10
      have b9 := (HK.out _ EZ).2
      have c90 := b9.cell 0; have c91 := b9.cell 1; have c92 := b9.cell 2; have f90 := b9.frozen 0; have f91 := b9.frozen 1; have f92 := b9.frozen 2
      simp at c90 c91 c92
      (repeat (first | (apply hw_read (by rfl) (by rfl); (· (intro W hW; (try dsimp only at hW); go_simp; (first | done | rfl | (rw [if_pos] <;> first | omega | rfl)))); (try simp only [Act.put, List.setIfInBounds_toArray, List.set_cons_zero, List.set_cons_succ])) | (refine hw_skip (by rfl) (by rfl) ?_; (try simp only [Act.put, List.setIfInBounds_toArray, List.set_cons_zero, List.set_cons_succ]))))
      (refine hw_nil ?_; (try simp only [List.drop_succ_cons, List.drop_zero]))
      go_wp2
      refine NoPanic.normal ?_
      (try dsimp only [Exit.then])
      go_wp2
      obtain ⟨p1, p2, -, -⟩ := put_three (a := .slice A7 n8 c7) (b := .slice A8 n9 c8) (c := .slice A9 n10 c9) b9
      have z0 := p1.cell 0; have z1 := p1.cell 1; have z2 := p1.cell 2
      simp at z0 z1 z2
      have hES := (((HE3.out.trans EZ).setNew (p := ⟨w.heap.size + 1, 0, none⟩) (by show _ ≤ w.heap.size + 1; omega) (.slice A7 n8 c7)).setNew (p := ⟨w.heap.size + 1, 1, none⟩) (by show _ ≤ w.heap.size + 1; omega) (.slice A8 n9 c8)).setNew (p := ⟨w.heap.size + 1, 2, none⟩) (by show _ ≤ w.heap.size + 1; omega) (.slice A9 n10 c9)
      refine bodyPost_ret (v := .tuple #[.agg #[.slice A7 n8 c7, .slice A8 n9 c8, .slice A9 n10 c9], .bool b9b]) (by simp [results, Tryz.results95, go_sem, z0, z1, z2]) rfl ⟨_, _, _, _, _, rfl, ⟨s8, t8, l8, HSz.out.keepT p2 (by decide) (by decide), HTz.out.keepT p2 (by decide) (by decide), HNz.out.keepT p2 (by decide) (by decide) (by decide), by rw [Hn9.out, Hn10.out]; exact Hsm.out⟩, HRz.out.keepT p2 (by decide) ((HE3.out.trans EZ).low hES hrb), by omega, by omega, hES⟩
    · have e1 : (v3 == 1) = false := by rw [beq_eq_false_iff_ne]; exact h1
      by_cases h2 : v3 = 2
      · subst h2
        go_wp2
        refine wp_region_hold (fun W => W.cell? ⟨w.heap.size, 0, none⟩ = some (.slice A s.length c) ∧ W.cell? ⟨w.heap.size, 1, none⟩ = some (.slice A2 t.length c2) ∧ W.cell? ⟨w.heap.size, 2, none⟩ = some (.slice A3 l.length c3)) 7 [(0, true), (1, true), (2, false), (3, false), (4, false), (5, true), (6, true)] (by kernel_rfl) (by kernel_rfl) ?_ ?_
        · exact (HK.out _ ((Ext.refl _).drew.toR rb)).1
        (repeat (first | (apply hw_read (by rfl) (by rfl); (· (intro W hW; (try dsimp only at hW); go_simp; (first | done | rfl | (rw [if_pos] <;> first | omega | rfl)))); (try simp only [Act.put, List.setIfInBounds_toArray, List.set_cons_zero, List.set_cons_succ])) | (refine hw_skip (by rfl) (by rfl) ?_; (try simp only [Act.put, List.setIfInBounds_toArray, List.set_cons_zero, List.set_cons_succ]))))
        refine hw_step (by rfl) ?_
        go_wp2
        (try refine ⟨(HK.out _ (((Ext.refl _).drew.alloc _).toR rb)).1, ?_⟩)
        refine hw_step (by rfl) ?_
        go_wp2_with (go_at_call 137; refine (of_c (HR3.out.ext ((Ext.refl _).drew.alloc _)) (by omega) (strs_lit (w := w3.drew) (ss := [⟨#[115]⟩, ⟨#[116]⟩, ⟨#[117]⟩]) (by decide) (by decide)) (by decide) (by decide)).mono ?_; rintro e wy ⟨pp, qy, rfl, hpp, hRy, hq1, hq2, hey⟩)
        have Ey : ExtR rb w3 wy := (((Ext.refl w3).drew.alloc _).toR rb).trans hey
        (try refine ⟨(HK.out _ Ey).1, ?_⟩)
        have hky := HR3.out.keepsT Ey
        have HSy := Lib.hid (HS3.out.keepT hky (by decide) (by decide))
        have HTy := Lib.hid (HT3.out.keepT hky (by decide) (by decide))
        have HNy := Lib.hid (HN3.out.keepT hky (by decide) (by decide) (by decide))
        have HRy := Lib.hid hRy
        clear hRy hey hky
        (repeat (first | (apply hw_read (by rfl) (by rfl); (· (intro W hW; (try dsimp only at hW); go_simp; (first | done | rfl | (rw [if_pos] <;> first | omega | rfl)))); (try simp only [Act.put, List.setIfInBounds_toArray, List.set_cons_zero, List.set_cons_succ])) | (refine hw_skip (by rfl) (by rfl) ?_; (try simp only [Act.put, List.setIfInBounds_toArray, List.set_cons_zero, List.set_cons_succ]))))
        refine hw_step (by rfl) ?_
        go_wp2_with (go_at_call 136; refine (SnapTakeW_c _ HSy.out HTy.out HNy.out hpp).mono ?_; rintro e wz ⟨uz, rfl, ⟨us, ut, un, b9b, rfl, s8, t8, l8, hS8, hT8, hN8, ht8, hl8, hlt8⟩, hez⟩)
        have EZ := Ey.extend hez
        (try refine ⟨(HK.out _ EZ).1, ?_⟩)
        obtain ⟨A7, c7, rfl, -⟩ := id hS8
        obtain ⟨A8, c8, rfl, -⟩ := id hT8
        obtain ⟨A9, c9, rfl, -⟩ := id hN8
        have hwy : w.heap.size ≤ wy.heap.size := (HE3.out.trans Ey).size
        have HSz := Lib.hid (hS8.keep hwy (fun _ _ _ => rfl))
        have HTz := Lib.hid (hT8.keep hwy (fun _ _ _ => rfl))
        have HNz := Lib.hid (hN8.keep hwy (fun _ _ _ => rfl))
        have HRz := Lib.hid (HRy.out.ext hez)
        have Hsm := Lib.hid (And.intro ht8 (And.intro hl8 hlt8))
        clear hS8 hT8 hN8 hez ht8 hl8 hlt8
        generalize s8.length = n8 at *
        generalize hn9 : t8.length = n9 at *
        generalize hn10 : l8.length = n10 at *
        have Hn9 := Lib.hid hn9
        have Hn10 := Lib.hid hn10
        clear hn9 hn10
        have b9 := (HK.out _ EZ).2
        have c90 := b9.cell 0; have c91 := b9.cell 1; have c92 := b9.cell 2; have f90 := b9.frozen 0; have f91 := b9.frozen 1; have f92 := b9.frozen 2
        simp at c90 c91 c92
        (repeat (first | (apply hw_read (by rfl) (by rfl); (· (intro W hW; (try dsimp only at hW); go_simp; (first | done | rfl | (rw [if_pos] <;> first | omega | rfl)))); (try simp only [Act.put, List.setIfInBounds_toArray, List.set_cons_zero, List.set_cons_succ])) | (refine hw_skip (by rfl) (by rfl) ?_; (try simp only [Act.put, List.setIfInBounds_toArray, List.set_cons_zero, List.set_cons_succ]))))
        (refine hw_nil ?_; (try simp only [List.drop_succ_cons, List.drop_zero]))
        go_wp2
        refine NoPanic.normal ?_
        (try dsimp only [Exit.then])
        go_wp2
        obtain ⟨p1, p2, -, -⟩ := put_three (a := .slice A7 n8 c7) (b := .slice A8 n9 c8) (c := .slice A9 n10 c9) b9
        have z0 := p1.cell 0; have z1 := p1.cell 1; have z2 := p1.cell 2
        simp at z0 z1 z2
        have hES := (((HE3.out.trans EZ).setNew (p := ⟨w.heap.size + 1, 0, none⟩) (by show _ ≤ w.heap.size + 1; omega) (.slice A7 n8 c7)).setNew (p := ⟨w.heap.size + 1, 1, none⟩) (by show _ ≤ w.heap.size + 1; omega) (.slice A8 n9 c8)).setNew (p := ⟨w.heap.size + 1, 2, none⟩) (by show _ ≤ w.heap.size + 1; omega) (.slice A9 n10 c9)
        refine bodyPost_ret (v := .tuple #[.agg #[.slice A7 n8 c7, .slice A8 n9 c8, .slice A9 n10 c9], .bool b9b]) (by simp [results, Tryz.results95, go_sem, z0, z1, z2]) rfl ⟨_, _, _, _, _, rfl, ⟨s8, t8, l8, HSz.out.keepT p2 (by decide) (by decide), HTz.out.keepT p2 (by decide) (by decide), HNz.out.keepT p2 (by decide) (by decide) (by decide), by rw [Hn9.out, Hn10.out]; exact Hsm.out⟩, HRz.out.keepT p2 (by decide) ((HE3.out.trans EZ).low hES hrb), by omega, by omega, hES⟩
      · have e2 : (v3 == 2) = false := by rw [beq_eq_false_iff_ne]; exact h2
        by_cases h3 : v3 = 3
        · subst h3
          go_wp2
          refine wp_region_hold (fun W => W.cell? ⟨w.heap.size, 0, none⟩ = some (.slice A s.length c) ∧ W.cell? ⟨w.heap.size, 1, none⟩ = some (.slice A2 t.length c2) ∧ W.cell? ⟨w.heap.size, 2, none⟩ = some (.slice A3 l.length c3)) 7 [(0, true), (1, true), (2, false), (3, false), (4, false), (5, true), (6, true)] (by kernel_rfl) (by kernel_rfl) ?_ ?_
          · exact (HK.out _ ((Ext.refl _).drew.toR rb)).1
          (repeat (first | (apply hw_read (by rfl) (by rfl); (· (intro W hW; (try dsimp only at hW); go_simp; (first | done | rfl | (rw [if_pos] <;> first | omega | rfl)))); (try simp only [Act.put, List.setIfInBounds_toArray, List.set_cons_zero, List.set_cons_succ])) | (refine hw_skip (by rfl) (by rfl) ?_; (try simp only [Act.put, List.setIfInBounds_toArray, List.set_cons_zero, List.set_cons_succ]))))
          refine hw_step (by rfl) ?_
          go_wp2
          (try refine ⟨(HK.out _ (((Ext.refl _).drew.alloc _).toR rb)).1, ?_⟩)
          refine hw_step (by rfl) ?_
          go_wp2_with (go_at_call 137; refine (of_c (HR3.out.ext ((Ext.refl _).drew.alloc _)) (by omega) (strs_lit (w := w3.drew) (ss := [⟨#[115]⟩, ⟨#[116]⟩]) (by decide) (by decide)) (by decide) (by decide)).mono ?_; rintro e wy ⟨pp, qy, rfl, hpp, hRy, hq1, hq2, hey⟩)
          have Ey : ExtR rb w3 wy := (((Ext.refl w3).drew.alloc _).toR rb).trans hey
          (try refine ⟨(HK.out _ Ey).1, ?_⟩)
          have hky := HR3.out.keepsT Ey
          have HSy := Lib.hid (HS3.out.keepT hky (by decide) (by decide))
          have HTy := Lib.hid (HT3.out.keepT hky (by decide) (by decide))
          have HNy := Lib.hid (HN3.out.keepT hky (by decide) (by decide) (by decide))
          have HRy := Lib.hid hRy
          clear hRy hey hky
          (repeat (first | (apply hw_read (by rfl) (by rfl); (· (intro W hW; (try dsimp only at hW); go_simp; (first | done | rfl | (rw [if_pos] <;> first | omega | rfl)))); (try simp only [Act.put, List.setIfInBounds_toArray, List.set_cons_zero, List.set_cons_succ])) | (refine hw_skip (by rfl) (by rfl) ?_; (try simp only [Act.put, List.setIfInBounds_toArray, List.set_cons_zero, List.set_cons_succ]))))
          refine hw_step (by rfl) ?_
          go_wp2_with (go_at_call 138; refine (SnapBackW_c _ HSy.out HTy.out HNy.out hpp).mono ?_; rintro e wz ⟨uz, rfl, ⟨us, ut, un, b9b, rfl, s8, t8, l8, hS8, hT8, hN8, ht8, hl8, hlt8⟩, hez⟩)
          have EZ := Ey.extend hez
          (try refine ⟨(HK.out _ EZ).1, ?_⟩)
          obtain ⟨A7, c7, rfl, -⟩ := id hS8
          obtain ⟨A8, c8, rfl, -⟩ := id hT8
          obtain ⟨A9, c9, rfl, -⟩ := id hN8
          have hwy : w.heap.size ≤ wy.heap.size := (HE3.out.trans Ey).size
          have HSz := Lib.hid (hS8.keep hwy (fun _ _ _ => rfl))
          have HTz := Lib.hid (hT8.keep hwy (fun _ _ _ => rfl))
          have HNz := Lib.hid (hN8.keep hwy (fun _ _ _ => rfl))
          have HRz := Lib.hid (HRy.out.ext hez)
          have Hsm := Lib.hid (And.intro ht8 (And.intro hl8 hlt8))
          clear hS8 hT8 hN8 hez ht8 hl8 hlt8
          generalize s8.length = n8 at *
          generalize hn9 : t8.length = n9 at *
          generalize hn10 : l8.length = n10 at *
          have Hn9 := Lib.hid hn9
          have Hn10 := Lib.hid hn10
          clear hn9 hn10
          have b9 := (HK.out _ EZ).2
          have c90 := b9.cell 0; have c91 := b9.cell 1; have c92 := b9.cell 2; have f90 := b9.frozen 0; have f91 := b9.frozen 1; have f92 := b9.frozen 2
          simp at c90 c91 c92
          (repeat (first | (apply hw_read (by rfl) (by rfl); (· (intro W hW; (try dsimp only at hW); go_simp; (first | done | rfl | (rw [if_pos] <;> first | omega | rfl)))); (try simp only [Act.put, List.setIfInBounds_toArray, List.set_cons_zero, List.set_cons_succ])) | (refine hw_skip (by rfl) (by rfl) ?_; (try simp only [Act.put, List.setIfInBounds_toArray, List.set_cons_zero, List.set_cons_succ]))))
          (refine hw_nil ?_; (try simp only [List.drop_succ_cons, List.drop_zero]))
          go_wp2
          refine NoPanic.normal ?_
          (try dsimp only [Exit.then])
          go_wp2
          obtain ⟨p1, p2, -, -⟩ := put_three (a := .slice A7 n8 c7) (b := .slice A8 n9 c8) (c := .slice A9 n10 c9) b9
          have z0 := p1.cell 0; have z1 := p1.cell 1; have z2 := p1.cell 2
          simp at z0 z1 z2
          have hES := (((HE3.out.trans EZ).setNew (p := ⟨w.heap.size + 1, 0, none⟩) (by show _ ≤ w.heap.size + 1; omega) (.slice A7 n8 c7)).setNew (p := ⟨w.heap.size + 1, 1, none⟩) (by show _ ≤ w.heap.size + 1; omega) (.slice A8 n9 c8)).setNew (p := ⟨w.heap.size + 1, 2, none⟩) (by show _ ≤ w.heap.size + 1; omega) (.slice A9 n10 c9)
          refine bodyPost_ret (v := .tuple #[.agg #[.slice A7 n8 c7, .slice A8 n9 c8, .slice A9 n10 c9], .bool b9b]) (by simp [results, Tryz.results95, go_sem, z0, z1, z2]) rfl ⟨_, _, _, _, _, rfl, ⟨s8, t8, l8, HSz.out.keepT p2 (by decide) (by decide), HTz.out.keepT p2 (by decide) (by decide), HNz.out.keepT p2 (by decide) (by decide) (by decide), by rw [Hn9.out, Hn10.out]; exact Hsm.out⟩, HRz.out.keepT p2 (by decide) ((HE3.out.trans EZ).low hES hrb), by omega, by omega, hES⟩
        · have e3 : (v3 == 3) = false := by rw [beq_eq_false_iff_ne]; exact h3
          go_wp2_with fail
          refine (of_c (HR3.out.ext ((Ext.refl _).alloc _)) (by omega) (strs_lit (w := w3) (ss := [⟨#[99]⟩, ⟨#[97, 47, 121]⟩, ⟨#[98, 47, 120]⟩, ⟨#[97, 47, 120, 47, 112]⟩, ⟨#[100]⟩]) (by decide) (by decide)) (by decide) (by decide)).mono ?_
          rintro e w4 ⟨pp, q4, rfl, hpp, hR4, hq41, hq42, he4⟩
          have E4 : ExtR rb w3 w4 := (((Ext.refl w3).alloc _).toR rb).trans he4
          have HR4 := Lib.hid hR4
          have hk4 := HR3.out.keepsT E4
          have HS4 := Lib.hid (HS3.out.keepT hk4 (by decide) (by decide))
          have HT4 := Lib.hid (HT3.out.keepT hk4 (by decide) (by decide))
          have HN4 := Lib.hid (HN3.out.keepT hk4 (by decide) (by decide) (by decide))
          clear hR4 he4 hk4
          go_wp2
          refine wp_region_hold (fun W => W.cell? ⟨w.heap.size, 0, none⟩ = some (.slice A s.length c) ∧ W.cell? ⟨w.heap.size, 1, none⟩ = some (.slice A2 t.length c2) ∧ W.cell? ⟨w.heap.size, 2, none⟩ = some (.slice A3 l.length c3)) 7 [(0, true), (1, true), (2, true), (3, false), (4, false), (5, true), (6, true)] (by kernel_rfl) (by kernel_rfl) ?_ ?_
          · exact (HK.out _ (E4.extend (Ext.refl _).drew)).1
          (repeat (first | (apply hw_read (by rfl) (by rfl); (· (intro W hW; (try dsimp only at hW); go_simp; (first | done | rfl | (rw [if_pos] <;> first | omega | rfl)))); (try simp only [Act.put, List.setIfInBounds_toArray, List.set_cons_zero, List.set_cons_succ])) | (refine hw_skip (by rfl) (by rfl) ?_; (try simp only [Act.put, List.setIfInBounds_toArray, List.set_cons_zero, List.set_cons_succ]))))
          refine hw_step (by rfl) ?_
          go_wp2_with (go_at_call 75; refine (l91File_c (HR4.out.ext (Ext.refl _).drew) (by omega)).mono ?_; rintro e wy ⟨vb, bs, qy, rfl, hIb, hb33, hRy, hq1, hq2, hey⟩)
          have Ey4 : ExtR rb w4 wy := ((Ext.refl w4).drew.toR rb).trans hey
          have Ey := E4.trans Ey4
          (try refine ⟨(HK.out _ Ey).1, ?_⟩)
          have hky := HR4.out.keepsT Ey4
          have HSy := Lib.hid (HS4.out.keepT hky (by decide) (by decide))
          have HTy := Lib.hid (HT4.out.keepT hky (by decide) (by decide))
          have HNy := Lib.hid (HN4.out.keepT hky (by decide) (by decide) (by decide))
          have HRy := Lib.hid hRy
          have HBy := Lib.hid hIb
          obtain ⟨Ab, cb, rfl, -⟩ := hIb
          clear hRy hey hky
          (repeat (first | (apply hw_read (by rfl) (by rfl); (· (intro W hW; (try dsimp only at hW); go_simp; (first | done | rfl | (rw [if_pos] <;> first | omega | rfl)))); (try simp only [Act.put, List.setIfInBounds_toArray, List.set_cons_zero, List.set_cons_succ])) | (refine hw_skip (by rfl) (by rfl) ?_; (try simp only [Act.put, List.setIfInBounds_toArray, List.set_cons_zero, List.set_cons_succ]))))
          refine hw_step (by rfl) ?_
          go_wp2_with (go_at_call 139; refine (DiskWriteW_c _ HSy.out HTy.out HNy.out HBy.out hpp).mono ?_; rintro e wz ⟨uz, rfl, ⟨us, ut, un, b9b, rfl, s8, t8, l8, hS8, hT8, hN8, ht8, hl8, hlt8⟩, hez⟩)
          have EZ := Ey.extend hez
          (try refine ⟨(HK.out _ EZ).1, ?_⟩)
          obtain ⟨A7, c7, rfl, -⟩ := id hS8
          obtain ⟨A8, c8, rfl, -⟩ := id hT8
          obtain ⟨A9, c9, rfl, -⟩ := id hN8
          have hwy : w.heap.size ≤ wy.heap.size := (HE3.out.trans Ey).size
          have HSz := Lib.hid (hS8.keep hwy (fun _ _ _ => rfl))
          have HTz := Lib.hid (hT8.keep hwy (fun _ _ _ => rfl))
          have HNz := Lib.hid (hN8.keep hwy (fun _ _ _ => rfl))
          have HRz := Lib.hid (HRy.out.ext hez)
          have Hsm := Lib.hid (And.intro ht8 (And.intro hl8 hlt8))
          clear hS8 hT8 hN8 hez ht8 hl8 hlt8
          generalize s8.length = n8 at *
          generalize hn9 : t8.length = n9 at *
          generalize hn10 : l8.length = n10 at *
          have Hn9 := Lib.hid hn9
          have Hn10 := Lib.hid hn10
          clear hn9 hn10
          have b9 := (HK.out _ EZ).2
          have c90 := b9.cell 0; have c91 := b9.cell 1; have c92 := b9.cell 2; have f90 := b9.frozen 0; have f91 := b9.frozen 1; have f92 := b9.frozen 2
          simp at c90 c91 c92
          (repeat (first | (apply hw_read (by rfl) (by rfl); (· (intro W hW; (try dsimp only at hW); go_simp; (first | done | rfl | (rw [if_pos] <;> first | omega | rfl)))); (try simp only [Act.put, List.setIfInBounds_toArray, List.set_cons_zero, List.set_cons_succ])) | (refine hw_skip (by rfl) (by rfl) ?_; (try simp only [Act.put, List.setIfInBounds_toArray, List.set_cons_zero, List.set_cons_succ]))))
          (refine hw_nil ?_; (try simp only [List.drop_succ_cons, List.drop_zero]))
          go_wp2
          refine NoPanic.normal ?_
          (try dsimp only [Exit.then])
          go_wp2
          obtain ⟨p1, p2, -, -⟩ := put_three (a := .slice A7 n8 c7) (b := .slice A8 n9 c8) (c := .slice A9 n10 c9) b9
          have z0 := p1.cell 0; have z1 := p1.cell 1; have z2 := p1.cell 2
          simp at z0 z1 z2
          have hES := (((HE3.out.trans EZ).setNew (p := ⟨w.heap.size + 1, 0, none⟩) (by show _ ≤ w.heap.size + 1; omega) (.slice A7 n8 c7)).setNew (p := ⟨w.heap.size + 1, 1, none⟩) (by show _ ≤ w.heap.size + 1; omega) (.slice A8 n9 c8)).setNew (p := ⟨w.heap.size + 1, 2, none⟩) (by show _ ≤ w.heap.size + 1; omega) (.slice A9 n10 c9)
          refine bodyPost_ret (v := .tuple #[.agg #[.slice A7 n8 c7, .slice A8 n9 c8, .slice A9 n10 c9], .bool b9b]) (by simp [results, Tryz.results95, go_sem, z0, z1, z2]) rfl ⟨_, _, _, _, _, rfl, ⟨s8, t8, l8, HSz.out.keepT p2 (by decide) (by decide), HTz.out.keepT p2 (by decide) (by decide), HNz.out.keepT p2 (by decide) (by decide) (by decide), by rw [Hn9.out, Hn10.out]; exact Hsm.out⟩, HRz.out.keepT p2 (by decide) ((HE3.out.trans EZ).low hES hrb), by omega, by omega, hES⟩
end Go.Sf

/-! A disk is drawn. -/
namespace Go.Sf
open Go Go.RowKit Go.Proofs
/-- a drawn disk, small -/
def DrewD (rb : Nat) (w : World) (q : Int) (e : Ending) (w' : World) : Prop := ∃ us ut un q', e = .returned (.agg #[us, ut, un]) ∧ WDk w.heap.size us ut un w' ∧ Rd rb w' q' ∧ q ≤ q' ∧ q' ≤ q + 3000 ∧ ExtR rb w w'
theorem WDk.keepT {B : Nat} {us ut un : Value} {t : TypeId} {w w' : World} (h : WDk B us ut un w) (hk : KeepsT t w w') (h1 : 110 ≠ t) (h2 : 57 ≠ t) (h3 : 35 ≠ t) (h4 : 3 ≠ t) : WDk B us ut un w' :=
  let ⟨s, t, l, a, b, c, r⟩ := h; ⟨s, t, l, a.keepT hk h1 h4, b.keepT hk h2 h4, c.keepT hk h3 h2 h4, r⟩
theorem WDk.ext {B : Nat} {us ut un : Value} {w w' : World} (h : WDk B us ut un w) (e : Ext w w') : WDk B us ut un w' :=
  let ⟨s, t, l, a, b, c, r⟩ := h; ⟨s, t, l, a.ext e, b.ext e, c.ext e, r⟩
theorem WDk.keep {B B' : Nat} {us ut un : Value} {w : World} (h : WDk B us ut un w) (hB : B' ≤ B) : WDk B' us ut un w :=
  let ⟨s, t, l, a, b, c, r⟩ := h; ⟨s, t, l, a.keep hB (fun _ _ _ => rfl), b.keep hB (fun _ _ _ => rfl), c.keep hB (fun _ _ _ => rfl), r⟩
theorem WDk.form {B : Nat} {us ut un : Value} {w : World} (h : WDk B us ut un w) : ∃ A1 n1 c1 A2 n2 c2 A3 n3 c3, us = .slice A1 n1 c1 ∧ ut = .slice A2 n2 c2 ∧ un = .slice A3 n3 c3 := by
  obtain ⟨s, t, l, ⟨A1, c1, h1, -⟩, ⟨A2, c2, h2, -⟩, ⟨A3, c3, h3, -⟩, -⟩ := h
  exact ⟨_, _, _, _, _, _, _, _, _, h1, h2, h3⟩
set_option maxRecDepth 8000 in
set_option maxHeartbeats 4000000 in
theorem l91Disk_c {rb : Nat} {w : World} {q : Int} (h : Rd rb w q) (hq : q ≤ 10000000) : Calls Tryz.prog 44 #[.pointer (some ⟨rb, 0, none⟩)] w (DrewD rb w q) := by
  have H := Lib.hid h
  have hrb := h.lt
  clear h
  have hbr := Lib.hid (Blk.new w 27 #[.slice none 0 0, .slice none 0 0, .slice none 0 0])
  have e0 : Ext w (w.alloc (.cells #[.slice none 0 0, .slice none 0 0, .slice none 0 0] 27)) := (Ext.refl w).alloc _
  have hsz : w.heap.size + 1 ≤ (w.alloc (.cells #[.slice none 0 0, .slice none 0 0, .slice none 0 0] 27)).heap.size := by simp
  go_enter Tryz.func44, Tryz.ntmps44
  go_wp2_with fail
  generalize w.alloc (.cells #[.slice none 0 0, .slice none 0 0, .slice none 0 0] 27) = w1 at *
  refine (l91Volume_c (H.out.ext e0) (by omega)).mono ?_
  rintro e w3 ⟨us, ut, s, t, q3, rfl, hS, hT, hs16, ht12, hR3, hq1, hq2, hE3⟩
  obtain ⟨Au, cu, rfl, -⟩ := id hS
  obtain ⟨At, ct, rfl, -⟩ := id hT
  have hw1 : w.heap.size ≤ w1.heap.size := by omega
  have eB : Ext w3 ((w3.alloc (.cells #[.slice Au s.length cu, .slice At t.length ct] 61)).alloc (.cells #[.slice Au s.length cu, .slice At t.length ct, .slice none 0 0] 27)) := ((Ext.refl w3).alloc _).alloc _
  have HW4 : Hid (WDk w.heap.size (.slice Au s.length cu) (.slice At t.length ct) (.slice none 0 0) ((w3.alloc (.cells #[.slice Au s.length cu, .slice At t.length ct] 61)).alloc (.cells #[.slice Au s.length cu, .slice At t.length ct, .slice none 0 0] 27))) := Lib.hid ⟨s, t, [], (hS.keep hw1 (fun _ _ _ => rfl)).ext eB, (hT.keep hw1 (fun _ _ _ => rfl)).ext eB, SlOf.nil _ _ _ _ _, ht12, by simp, by simp⟩
  have HZ4 := Lib.hid ((hE3.blk hbr.out (by omega)).ext eB)
  have HE4 := Lib.hid (((e0.toR rb).trans hE3).extend eB)
  have HR4 := Lib.hid (hR3.ext eB)
  have hdb : Hid (Blk ((w3.alloc (.cells #[.slice Au s.length cu, .slice At t.length ct] 61)).alloc (.cells #[.slice Au s.length cu, .slice At t.length ct, .slice none 0 0] 27)) (w3.heap.size + 1) 27 #[.slice Au s.length cu, .slice At t.length ct, .slice none 0 0]) := Lib.hid (by
    have := Blk.new (w3.alloc (.cells #[.slice Au s.length cu, .slice At t.length ct] 61)) 27 #[.slice Au s.length cu, .slice At t.length ct, .slice none 0 0]
    simpa using this)
  obtain ⟨g3, hg3⟩ : ∃ g, w3.heap.size = g := ⟨_, rfl⟩
  have hgw : w.heap.size + 1 ≤ g3 := by have := hE3.size; omega
  have hsz3 : g3 + 2 ≤ ((w3.alloc (.cells #[.slice Au s.length cu, .slice At t.length ct] 61)).alloc (.cells #[.slice Au s.length cu, .slice At t.length ct, .slice none 0 0] 27)).heap.size := by simp; omega
  rw [hg3] at hdb
  clear hS hT hR3 hE3 hbr eB
  go_wp2_with fail
  (try rw [hg3])
  clear hg3
  generalize (w3.alloc (.cells #[.slice Au s.length cu, .slice At t.length ct] 61)).alloc (.cells #[.slice Au s.length cu, .slice At t.length ct, .slice none 0 0] 27) = w4 at *
  refine (pick_c 7 HR4.out (by omega) (by omega)).mono ?_
  rintro e w5 ⟨v5, rfl, h50, h57, -, hR5, he5⟩
  have h57 := h57 (by omega)
  obtain ⟨v5, rfl⟩ := Int.eq_ofNat_of_zero_le h50
  have hkT := HR4.out.keepsT he5
  have HW5 := Lib.hid (HW4.out.keepT hkT (by decide) (by decide) (by decide) (by decide))
  have HR5 := Lib.hid hR5
  have HZ5 := Lib.hid (he5.blk HZ4.out (by omega))
  have HD5 := Lib.hid (he5.blk hdb.out (by omega))
  have HE5 := Lib.hid (HE4.out.trans he5)
  clear hR5 he5 hkT hdb
  go_wp2
  go_loopw [6] (fun i wr => ∃ (k : Nat) (us ut un : Value) (q' : Int), k ≤ 7 ∧ i = .int .i64 k ∧ Hid (Blk wr (g3 + 1) 27 #[us, ut, un]) ∧ Hid (Blk wr w.heap.size 27 #[.slice none 0 0, .slice none 0 0, .slice none 0 0]) ∧ WDk w.heap.size us ut un wr ∧ Rd rb wr q' ∧ q ≤ q' ∧ q' ≤ q3 + 1 + 110 * k ∧ ExtR rb w wr) (fun i _ => 8 - (RowKit.intOf i).toNat)
  case atStart => exact ⟨0, _, _, _, q3 + 1, by omega, rfl, HD5, HZ5, HW5.out, HR5.out, by omega, by omega, HE5.out⟩
  case round =>
    obtain ⟨k, us, ut, un, q', hk, rfl, hD, hZ, hW, hR, hqa, hqb, hE⟩ := hrel
    have HW := Lib.hid hW; have HR := Lib.hid hR; have HE := Lib.hid hE
    obtain ⟨s1, t1, l1, hS1, hT1, hN1, -⟩ := hW
    obtain ⟨A1, c1, rfl, -⟩ := id hS1
    obtain ⟨A2, c2, rfl, -⟩ := id hT1
    obtain ⟨A3, c3, rfl, -⟩ := id hN1
    have HS1 := Lib.hid hS1; have HT1 := Lib.hid hT1; have HN1 := Lib.hid hN1
    have d0 := hD.out.cell 0; have d1 := hD.out.cell 1; have d2 := hD.out.cell 2
    simp at d0 d1 d2
    clear hR hE hS1 hT1 hN1
    by_cases hlt : (k : Int) < (v5 : Int)
    · go_wp2_with fail
      refine (l91Turn_c HR.out (by omega) HS1.out HT1.out HN1.out).mono ?_
      rintro e w7 ⟨us7, ut7, un7, b7, q7, rfl, hW7, hR7, hq71, hq72, hE7⟩
      obtain ⟨A4, n4, c4, A5, n5, c5, A6, n6, c6, rfl, rfl, rfl⟩ := hW7.form
      have hwr := HE.out.size
      have hkT := HR.out.keepsT hE7
      have eX := (Ext.refl w7).alloc (.cells #[.slice A4 n4 c4, .slice A5 n5 c5, .slice A6 n6 c6] 27)
      have HW7 := Lib.hid ((hW7.keep hwr).ext eX)
      have HWo := Lib.hid ((HW.out.keepT hkT (by decide) (by decide) (by decide) (by decide)).ext eX)
      have hD7 := (hE7.blk hD.out (by omega)).ext eX
      have HD7 := Lib.hid hD7
      have HZ7 := Lib.hid ((hE7.blk hZ.out (by omega)).ext eX)
      have HR7 := Lib.hid (hR7.ext eX)
      have HE7 := Lib.hid ((HE.out.trans hE7).extend eX)
      have hxb := Blk.new w7 27 #[.slice A4 n4 c4, .slice A5 n5 c5, .slice A6 n6 c6]
      have x0 := hxb.cell 0; have x1 := hxb.cell 1; have x2 := hxb.cell 2
      have v0 := hD7.cell 0; have v1 := hD7.cell 1; have v2 := hD7.cell 2; have f0 := hD7.frozen 0; have f1 := hD7.frozen 1; have f2 := hD7.frozen 2
      simp at x0 x1 x2 v0 v1 v2
      clear hW7 hkT hR7 hE7 eX hxb hD7 d0 d1 d2
      cases b7 with
      | true =>
        go_wp2_with fail
        obtain ⟨p1, p2, -, p4⟩ := put_three (a := .slice A4 n4 c4) (b := .slice A5 n5 c5) (c := .slice A6 n6 c6) HD7.out
        have hz8 := Lib.hid ((p4 w.heap.size (by omega)).trans HZ7.out)
        have HES := Lib.hid (((HE7.out.setNew (p := ⟨g3 + 1, 0, none⟩) (by show _ ≤ g3 + 1; omega) (.slice A4 n4 c4)).setNew (p := ⟨g3 + 1, 1, none⟩) (by show _ ≤ g3 + 1; omega) (.slice A5 n5 c5)).setNew (p := ⟨g3 + 1, 2, none⟩) (by show _ ≤ g3 + 1; omega) (.slice A6 n6 c6))
        have HP1 := Lib.hid p1
        have HW8 := Lib.hid (HW7.out.keepT p2 (by decide) (by decide) (by decide) (by decide))
        have HR8 := Lib.hid (HR7.out.keepT p2 (by decide) (HE7.out.low HES.out hrb))
        clear p1 p2 p4
        go_roundw
        case rel => exact ⟨k + 1, _, _, _, q7, by omega, by go_num, HP1, hz8, HW8.out, HR8.out, by omega, by omega, HES.out⟩
        case measure => simp [RowKit.intOf]; omega
      | false =>
        go_wp2_with fail
        go_roundw
        case rel => exact ⟨k + 1, _, _, _, q7, by omega, by go_num, HD7, HZ7, HWo.out, HR7.out, by omega, by omega, HE7.out⟩
        case measure => simp [RowKit.intOf]; omega
    · have hz9 := hZ.out
      have c90 := hz9.cell 0; have c91 := hz9.cell 1; have c92 := hz9.cell 2; have f90 := hz9.frozen 0; have f91 := hz9.frozen 1; have f92 := hz9.frozen 2
      simp at c90 c91 c92
      go_wp2
      obtain ⟨p1, p2, -, -⟩ := put_three (a := .slice A1 s1.length c1) (b := .slice A2 t1.length c2) (c := .slice A3 l1.length c3) hz9
      have z0 := p1.cell 0; have z1 := p1.cell 1; have z2 := p1.cell 2
      simp at z0 z1 z2
      have hES := ((HE.out.setNew (p := ⟨w.heap.size, 0, none⟩) (by show _ ≤ w.heap.size; omega) (.slice A1 s1.length c1)).setNew (p := ⟨w.heap.size, 1, none⟩) (by show _ ≤ w.heap.size; omega) (.slice A2 t1.length c2)).setNew (p := ⟨w.heap.size, 2, none⟩) (by show _ ≤ w.heap.size; omega) (.slice A3 l1.length c3)
      refine bodyPost_ret (v := .agg #[.slice A1 s1.length c1, .slice A2 t1.length c2, .slice A3 l1.length c3]) (by simp [results, Tryz.results44, go_sem, z0, z1, z2]) rfl ⟨_, _, _, _, rfl, HW.out.keepT p2 (by decide) (by decide) (by decide) (by decide), HR.out.keepT p2 (by decide) (HE.out.low hES hrb), by omega, by omega, hES⟩
end Go.Sf

/-! Disks are drawn, with a snapshot's name and a path. -/
namespace Go.Sf
open Go Go.RowKit Go.Proofs
/-- a drawn disk -/
def DrewDD (w : World) (e : Ending) (w' : World) : Prop := ∃ us ut un, e = .returned (.agg #[us, ut, un]) ∧ WDk w.heap.size us ut un w' ∧ Ext w w'
end Go.Sf

/-! Disks are drawn, with one path. -/
namespace Go.Sf
open Go Go.RowKit Go.Proofs
/-- a drawn disk and a word -/
def DrewDP (w : World) (e : Ending) (w' : World) : Prop := ∃ us ut un p, e = .returned (.tuple #[.agg #[us, ut, un], .string p]) ∧ WDk w.heap.size us ut un w' ∧ p.size < lim ∧ Ext w w'
set_option maxRecDepth 8000 in
set_option maxHeartbeats 4000000 in
theorem DrawHistoryOf_c {v : Value} {xs : List Int} (w : World) (h : Bys w v xs) : Calls Tryz.prog 38 #[v] w (DrewDP w) := by
  have hbr := Lib.hid (Blk.new w 27 #[.slice none 0 0, .slice none 0 0, .slice none 0 0])
  have e0 : Ext w (w.alloc (.cells #[.slice none 0 0, .slice none 0 0, .slice none 0 0] 27)) := (Ext.refl w).alloc _
  have hsz : w.heap.size + 1 ≤ (w.alloc (.cells #[.slice none 0 0, .slice none 0 0, .slice none 0 0] 27)).heap.size := by simp
  go_enter Tryz.func38, Tryz.ntmps38
  go_wp2_with fail
  generalize w.alloc (.cells #[.slice none 0 0, .slice none 0 0, .slice none 0 0] 27) = w1 at *
  refine (l6Open_c w1 (h.ext e0)).mono ?_
  rintro e w2 ⟨rb, rfl, hrb, hrb1, hR, he2⟩
  have E2 := e0.trans he2
  have HR := Lib.hid hR
  have HZ := Lib.hid (hbr.out.ext he2)
  clear hR h hbr
  go_wp2_with fail
  refine (l91Disk_c HR.out (by omega)).mono ?_
  rintro e w3 ⟨us, ut, un, q3, rfl, hW, hR3, hq1, hq2, hE3⟩
  have hw2 := E2.size
  have hW := hW.keep hw2
  have HW := Lib.hid hW
  obtain ⟨s, t, l, hS, hT, hN, hb12, hb7, hbl⟩ := hW
  obtain ⟨Au, cu, rfl, -⟩ := id hS
  obtain ⟨At, ct, rfl, -⟩ := id hT
  obtain ⟨An, cn, rfl, -⟩ := id hN
  have HS := Lib.hid hS; have HT := Lib.hid hT; have HN := Lib.hid hN; have HR3 := Lib.hid hR3; have HBL := Lib.hid hbl
  have HZ3 := Lib.hid (hE3.blk HZ.out (by omega))
  have HE3 := Lib.hid hE3
  clear hS hT hN hR3 hE3 HR HZ hbl
  have eB := (Ext.refl w3).alloc (.cells #[.slice Au s.length cu, .slice At t.length ct, .slice An l.length cn] 27)
  have hvb := Blk.new w3 27 #[.slice Au s.length cu, .slice At t.length ct, .slice An l.length cn]
  have HVB := Lib.hid hvb
  have hrb3 : rb < w3.heap.size := HR3.out.lt
  obtain ⟨gv, hgv⟩ : ∃ gv, w3.heap.size = gv := ⟨_, rfl⟩
  rw [hgv] at HVB hrb3
  have HW4 := Lib.hid (HW.out.ext eB); have HS4 := Lib.hid (HS.out.ext eB); have HT4 := Lib.hid (HT.out.ext eB); have HN4 := Lib.hid (HN.out.ext eB); have HR4 := Lib.hid (HR3.out.ext eB); have HZ4 := Lib.hid (HZ3.out.ext eB); have HE4 := Lib.hid (HE3.out.extend eB)
  clear hvb HS HT HN HW HR3 HZ3 HE3 eB
  go_wp2_with fail
  (try rw [hgv])
  clear hgv
  generalize w3.alloc (.cells #[.slice Au s.length cu, .slice At t.length ct, .slice An l.length cn] 27) = w4 at *
  have HVB4 := HVB
  have hv4 := HVB4.out
  have x0 := hv4.cell 0; have x1 := hv4.cell 1; have x2 := hv4.cell 2
  simp at x0 x1 x2
  clear hv4
  clear x0 x1 x2
  have HK : Hid (∀ W, ExtR rb w4 W → W.cell? ⟨gv, 0, none⟩ = some (.slice Au s.length cu) ∧ W.cell? ⟨gv, 1, none⟩ = some (.slice At t.length ct) ∧ W.cell? ⟨gv, 2, none⟩ = some (.slice An l.length cn)) := Lib.hid fun W e => by
    have h1 := e.blk HVB4.out (by omega)
    have c0 := h1.cell 0; have c1 := h1.cell 1; have c2 := h1.cell 2
    simp at c0 c1 c2
    exact ⟨c0, c1, c2⟩
  refine wp_region_hold (fun W => W.cell? ⟨gv, 0, none⟩ = some (.slice Au s.length cu) ∧ W.cell? ⟨gv, 1, none⟩ = some (.slice At t.length ct) ∧ W.cell? ⟨gv, 2, none⟩ = some (.slice An l.length cn)) 5 [(0, true), (1, true), (2, true), (3, true), (4, false)] (by kernel_rfl) (by kernel_rfl) ?_ ?_
  · exact HK.out _ ((Ext.refl _).drew.toR rb)
  (repeat (first | (apply hw_read (by rfl) (by rfl); (· (intro W hW; (try dsimp only at hW); go_simp; (first | done | rfl | (rw [if_pos] <;> first | omega | rfl)))); (try simp only [Act.put, List.setIfInBounds_toArray, List.set_cons_zero, List.set_cons_succ])) | (refine hw_skip (by rfl) (by rfl) ?_; (try simp only [Act.put, List.setIfInBounds_toArray, List.set_cons_zero, List.set_cons_succ]))))
  refine hw_step (by rfl) ?_
  go_wp2_with (go_at_call 59; refine (l91At_c (HR4.out.ext (Ext.refl _).drew) (by omega) (HR4.out.ext (Ext.refl _).drew).lt (HT4.out.ext (Ext.refl _).drew) (by omega)).mono ?_; rintro e wy ⟨pp, qy, rfl, hpp, hRy, hqy1, hqy2, hey⟩)
  have Ey : ExtR rb w4 wy := ((Ext.refl w4).drew.toR rb).trans hey
  (try refine ⟨HK.out _ Ey, ?_⟩)
  have hky := HR4.out.keepsT Ey
  have HWy := Lib.hid (HW4.out.keepT hky (by decide) (by decide) (by decide) (by decide))
  have HZy := Lib.hid (Ey.blk HZ4.out (by omega))
  have HEy := Lib.hid (HE4.out.trans Ey)
  clear hky hey
  (repeat (first | (apply hw_read (by rfl) (by rfl); (· (intro W hW; (try dsimp only at hW); go_simp; (first | done | rfl | (rw [if_pos] <;> first | omega | rfl)))); (try simp only [Act.put, List.setIfInBounds_toArray, List.set_cons_zero, List.set_cons_succ])) | (refine hw_skip (by rfl) (by rfl) ?_; (try simp only [Act.put, List.setIfInBounds_toArray, List.set_cons_zero, List.set_cons_succ]))))
  have hz9 := HZy.out
  have c90 := hz9.cell 0; have c91 := hz9.cell 1; have c92 := hz9.cell 2; have f90 := hz9.frozen 0; have f91 := hz9.frozen 1; have f92 := hz9.frozen 2
  simp at c90 c91 c92
  (refine hw_nil ?_; (try simp only [List.drop_succ_cons, List.drop_zero]))
  go_wp2
  refine NoPanic.normal ?_
  (try dsimp only [Exit.then])
  go_wp2
  obtain ⟨p1, p2, p3, -⟩ := put_three (a := .slice Au s.length cu) (b := .slice At t.length ct) (c := .slice An l.length cn) hz9
  have z0 := p1.cell 0; have z1 := p1.cell 1; have z2 := p1.cell 2
  simp at z0 z1 z2
  exact bodyPost_ret (v := .tuple #[.agg #[.slice Au s.length cu, .slice At t.length ct, .slice An l.length cn], .string pp]) (by simp [results, Tryz.results38, go_sem, z0, z1, z2]) rfl ⟨_, _, _, _, rfl, HWy.out.keepT p2 (by decide) (by decide) (by decide) (by decide), hpp, p3 w (HEy.out.ext E2 (by omega)) (Nat.le_refl _)⟩
end Go.Sf
