/- The reference's functions on items and trees that make memory. -/
import Derived.Test.YtfpkllihfcgmaaaDoorT4
namespace Go.Sf
open Go Go.RowKit Go.Proofs
set_option maxHeartbeats 1000000 in
theorem l5Copy_c {B : Nat} {v : Value} {x : It} (w : World) (h : ItV B w v x) : Calls Tryd.prog 30 #[v] w (RetP (fun v' w' => ItV w.heap.size w' v' x) w) := by
  obtain ⟨xp, xd, xi⟩ := x
  obtain ⟨u2, rfl, hps, hI⟩ := h
  simp only at hps hI
  have hl := hI.len
  have HI := Lib.hid hI; have Hps := Lib.hid hps
  clear hI hps
  go_enter Tryd.func30, Tryd.ntmps30
  go_wp2_with (at_builtin; go_must (refine wp_apS (w0 := w) (by rfl) _ _ (by rfl) el_int eint_ok ?_ _ u2 [] xi (by rfl) (OwnS.lit _ _ _ _ ?_ (by simp)) (by rfl) (Ints.ext HI.out ?_) ?_ ?_))
  · (repeat' (first | exact Ext.refl _ | assumption | refine Ext.alloc ?_ _ | refine Ext.drew ?_ | refine Ext.drewN ?_ _))
  · simp; omega
  · (repeat' (first | exact Ext.refl _ | assumption | refine Ext.alloc ?_ _ | refine Ext.drew ?_ | refine Ext.drewN ?_ _))
  · simpa using hl
  · intro v' w' hO he hk
    have hb1 := hk _ _ _ (by decide) (((Blk.new w 35 #[.string xp, .bool xd, u2]).alloc (.cells #[.string ⟨#[]⟩, .bool false, .slice none 0 0] 35)).alloc (.cells #[] 3))
    have hb2 := hk _ _ _ (by decide) ((Blk.new (w.alloc (.cells #[.string xp, .bool xd, u2] 35)) 35 #[.string ⟨#[]⟩, .bool false, .slice none 0 0]).alloc (.cells #[] 3))
    simp only [World.size_alloc] at hb2
    have c0 := hb1.cell 0; have c1 := hb1.cell 1; have c2 := hb1.cell 2
    have d0 := hb2.cell 0; have d1 := hb2.cell 1; have d2 := hb2.cell 2
    have f0 := hb1.frozen 2
    have g0 := hb2.frozen 0; have g1 := hb2.frozen 1; have g2 := hb2.frozen 2
    simp at c0 c1 c2 d0 d1 d2
    obtain ⟨A', c', rfl⟩ := hO.form
    have HO := Lib.hid hO; have Hk := Lib.hid hk; have Hb1 := Lib.hid hb1; have Hb2 := Lib.hid hb2
    clear hO hk hb1 hb2
    go_wp2
    have B1 := Hb1.out.set_ 2 (.slice A' xi.length c')
    have B2 := Hb2.out.far (p := ⟨w.heap.size, 2, none⟩) (by simp) (.slice A' xi.length c')
    have K1 : KeepsT 35 w' _ := KeepsT.set (i := 2) Hb1.out (.slice A' xi.length c') rfl
    have E1 := he.setCell (p := ⟨w.heap.size, 2, none⟩) (Nat.le_refl _) (.slice A' xi.length c')
    generalize w'.setCell ⟨w.heap.size, 2, none⟩ (.slice A' xi.length c') = w2 at *
    have K2 := K1.trans (KeepsT.set (i := 0) B2 (.string xp) rfl)
    have E2 := E1.setCell (p := ⟨w.heap.size + 1, 0, none⟩) (by simp) (.string xp)
    have B3 := B2.set_ 0 (.string xp)
    generalize w2.setCell ⟨w.heap.size + 1, 0, none⟩ (.string xp) = w3 at *
    have K3 := K2.trans (KeepsT.set (i := 1) B3 (.bool xd) rfl)
    have E3 := E2.setCell (p := ⟨w.heap.size + 1, 1, none⟩) (by simp) (.bool xd)
    have B4 := B3.set_ 1 (.bool xd)
    generalize w3.setCell ⟨w.heap.size + 1, 1, none⟩ (.bool xd) = w4 at *
    have K4 := K3.trans (KeepsT.set (i := 2) B4 (.slice A' xi.length c') rfl)
    have E4 := E3.setCell (p := ⟨w.heap.size + 1, 2, none⟩) (by simp) (.slice A' xi.length c')
    have B5 := B4.set_ 2 (.slice A' xi.length c')
    generalize w4.setCell ⟨w.heap.size + 1, 2, none⟩ (.slice A' xi.length c') = w5 at *
    have z0 := B5.cell 0; have z1 := B5.cell 1; have z2 := B5.cell 2
    simp at z0 z1 z2
    have HI' : Ints w.heap.size w5 (.slice A' xi.length c') xi := (HO.out.sl eint_ok (Nat.le_refl _) hl).keepT K4 (by decide) (fun _ _ _ h => h)
    exact bodyPost_ret (v := .agg #[.string xp, .bool xd, .slice A' xi.length c']) (by simp [results, Tryd.results30, go_sem, z0, z1, z2]) rfl ⟨_, rfl, ⟨_, rfl, Hps.out, HI'⟩, E4⟩
end Go.Sf
