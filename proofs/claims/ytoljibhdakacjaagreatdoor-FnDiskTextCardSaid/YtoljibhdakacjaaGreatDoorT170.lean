/- Disks are drawn, and a store with a tree. -/
import Derived.Test.YtoljibhdakacjaaGreatDoorHD
namespace Go.Sf
open Go Go.RowKit Go.Proofs
set_option maxRecDepth 8000 in
set_option maxHeartbeats 4000000 in
theorem DrawDiskText_c {v : Value} {xs : List Int} (w : World) (h : Bys w v xs) : Calls Tryz.prog 29 #[v] w (DrewDD w) := by
  have hbr := Lib.hid (Blk.new w 27 #[.slice none 0 0, .slice none 0 0, .slice none 0 0])
  have e0 : Ext w (w.alloc (.cells #[.slice none 0 0, .slice none 0 0, .slice none 0 0] 27)) := (Ext.refl w).alloc _
  have hsz : w.heap.size + 1 ≤ (w.alloc (.cells #[.slice none 0 0, .slice none 0 0, .slice none 0 0] 27)).heap.size := by simp
  go_enter Tryz.func29, Tryz.ntmps29
  go_wp2_with fail
  generalize w.alloc (.cells #[.slice none 0 0, .slice none 0 0, .slice none 0 0] 27) = w1 at *
  refine (l6Open_c w1 (h.ext e0)).mono ?_
  rintro e w2 ⟨rb, rfl, hrb, hrb1, hR, he2⟩
  have E2 := e0.trans he2
  have HR := Lib.hid hR
  have HZ := Lib.hid (hbr.out.ext he2)
  clear hR h hbr
  go_wp2_with fail
  refine (l91Disk_c HR.out (by omega)).mono ?_
  rintro e w3 ⟨us, ut, un, q3, rfl, hW, hR3, hq1, hq2, hE3⟩
  have hw2 := E2.size
  have hW := hW.keep hw2
  have HW := Lib.hid hW
  obtain ⟨s, t, l, hS, hT, hN, hb12, hb7, hbl⟩ := hW
  obtain ⟨Au, cu, rfl, -⟩ := id hS
  obtain ⟨At, ct, rfl, -⟩ := id hT
  obtain ⟨An, cn, rfl, -⟩ := id hN
  have HS := Lib.hid hS; have HT := Lib.hid hT; have HN := Lib.hid hN; have HR3 := Lib.hid hR3; have HBL := Lib.hid hbl
  have HZ3 := Lib.hid (hE3.blk HZ.out (by omega))
  have HE3 := Lib.hid hE3
  clear hS hT hN hR3 hE3 HR HZ hbl
  have hz9 := HZ3.out
  have c90 := hz9.cell 0; have c91 := hz9.cell 1; have c92 := hz9.cell 2; have f90 := hz9.frozen 0; have f91 := hz9.frozen 1; have f92 := hz9.frozen 2
  simp at c90 c91 c92
  go_wp2
  obtain ⟨p1, p2, p3, -⟩ := put_three (a := .slice Au s.length cu) (b := .slice At t.length ct) (c := .slice An l.length cn) hz9
  have z0 := p1.cell 0; have z1 := p1.cell 1; have z2 := p1.cell 2
  simp at z0 z1 z2
  exact bodyPost_ret (v := .agg #[.slice Au s.length cu, .slice At t.length ct, .slice An l.length cn]) (by simp [results, Tryz.results29, go_sem, z0, z1, z2]) rfl ⟨_, _, _, rfl, HW.out.keepT p2 (by decide) (by decide) (by decide) (by decide), p3 w (HE3.out.ext E2 (by omega)) (Nat.le_refl _)⟩
/-- a drawn store and tree -/
def DrewST (w : World) (e : Ending) (w' : World) : Prop := ∃ us ut s t, e = .returned (.tuple #[us, ut]) ∧ Hds w.heap.size w' us s ∧ Its w.heap.size w' ut t ∧ t.length ≤ 12 ∧ Ext w w'
set_option maxRecDepth 8000 in
set_option maxHeartbeats 4000000 in
theorem DrawTreeText_c {v : Value} {xs : List Int} (w : World) (h : Bys w v xs) : Calls Tryz.prog 25 #[v] w (DrewST w) := by
  go_enter Tryz.func25, Tryz.ntmps25
  go_wp2_with fail
  refine (l6Open_c w h).mono ?_
  rintro e w2 ⟨rb, rfl, hrb, hrb1, hR, he2⟩
  have HR := Lib.hid hR
  clear hR h
  go_wp2_with fail
  refine (l91Disk_c HR.out (by omega)).mono ?_
  rintro e w3 ⟨us, ut, un, q3, rfl, hW, hR3, hq1, hq2, hE3⟩
  have hw2 := he2.size
  have hW := hW.keep hw2
  obtain ⟨s, t, l, hS, hT, hN, hb12, hb7, hbl⟩ := hW
  obtain ⟨Au, cu, rfl, -⟩ := id hS
  obtain ⟨At, ct, rfl, -⟩ := id hT
  obtain ⟨An, cn, rfl, -⟩ := id hN
  have HE := Lib.hid (hE3.ext he2 (by omega))
  have eB := (Ext.refl w3).alloc (.cells #[.slice Au s.length cu, .slice At t.length ct, .slice An l.length cn] 27)
  have HS := Lib.hid (hS.ext eB); have HT := Lib.hid (hT.ext eB)
  have HE4 := Lib.hid (HE.out.trans eB)
  have hvb := Blk.new w3 27 #[.slice Au s.length cu, .slice At t.length ct, .slice An l.length cn]
  have X0 := fun W (e : Ext (w3.alloc (.cells #[.slice Au s.length cu, .slice At t.length ct, .slice An l.length cn] 27)) W) => hvb.at_ (i := 0) (u := .slice Au s.length cu) rfl W e
  have X1 := fun W (e : Ext (w3.alloc (.cells #[.slice Au s.length cu, .slice At t.length ct, .slice An l.length cn] 27)) W) => hvb.at_ (i := 1) (u := .slice At t.length ct) rfl W e
  clear hS hT hN hR3 hE3 HR hbl hvb eB
  go_wp2
  generalize w3.alloc (.cells #[.slice Au s.length cu, .slice At t.length ct, .slice An l.length cn] 27) = w4 at *
  refine wp_region_hold (fun W => Ext w4 W ∧ W.cell? ⟨w3.heap.size, 0, none⟩ = some (.slice Au s.length cu) ∧ W.cell? ⟨w3.heap.size, 1, none⟩ = some (.slice At t.length ct)) 5 [(0, true), (1, true), (2, true), (3, true), (4, true)] (by kernel_rfl) (by kernel_rfl) ?_ ?_
  · have e := (Ext.refl w4).drew
    exact ⟨e, X0 _ e, X1 _ e⟩
  (repeat (first | (apply hw_read (by rfl) (by rfl); (· (intro W hW; (try dsimp only at hW); go_simp; (first | done | rfl | (rw [if_pos] <;> first | omega | rfl)))); (try simp only [Act.put, List.setIfInBounds_toArray, List.set_cons_zero, List.set_cons_succ])) | (refine hw_skip (by rfl) (by rfl) ?_; (try simp only [Act.put, List.setIfInBounds_toArray, List.set_cons_zero, List.set_cons_succ]))))
  (refine hw_nil ?_; (try simp only [List.drop_succ_cons, List.drop_zero]))
  go_wp2
  refine NoPanic.normal ?_
  (try dsimp only [Exit.then])
  go_wp2
  go_ret2
  have e := (Ext.refl w4).drew
  exact ⟨_, _, s, t, rfl, HS.out.ext e, HT.out.ext e, hb12, HE4.out.trans e⟩
end Go.Sf
