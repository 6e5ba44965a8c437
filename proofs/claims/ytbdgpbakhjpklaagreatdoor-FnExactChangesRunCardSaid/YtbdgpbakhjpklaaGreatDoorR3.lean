/- Arguments that are changes: how they read, by their cells. -/
import Derived.Test.YtbdgpbakhjpklaaGreatDoorR1
import Derived.Test.YtbdgpbakhjpklaaGreatDoorGL
namespace Go.Proofs.YtbdgpbakhjpklaaGreatDoor
open Go.ChangeShapes Go.WideShapes Go.ChangeAt Go.RowKit Go.Sf
section
variable {H : Type} {enc : TypeId × Value → H} {W : World} {fuel : Nat} {x : DataW H × List MemPlace}
set_option maxRecDepth 100000 in
theorem open_changes {v : Value} {d : DataW H} {p : List MemPlace} {base : Nat} (hval : Value.okWide Tryz.prog W .any base 55 v) (h : DataW.Trod enc Tryz.prog W 0 (fun _ => true) true 55 v d p) : ∃ l, AChs W v l := by
  obtain ⟨a0, n0, c0, rfl⟩ := okWide_slice Tryz.underlying55 hval
  obtain ⟨fuel, hf⟩ := h
  obtain ⟨u, l, hcs, hl⟩ := open_rows (E := ACh) Tryz.underlying55 (sz := 4) (by kernel_rfl) (by decide) (fun n b p cs' y hlen hcell ht => by
    obtain ⟨y0, yi, m, -, -, t0, ti⟩ := Go.ChangeShapes.trod_struct2 Tryz.underlying112 ht
    match cs', hlen with
    | [c0, c1, c2, c3], _ =>
      simp only [show Tryz.prog.cellsOf 3 = 1 by kernel_rfl, show Tryz.prog.cellsOf 83 = 3 by kernel_rfl, List.drop_zero, List.drop_succ_cons, List.take_succ_cons, List.take_zero, List.take_nil] at t0 ti
      obtain ⟨y1, y2, y3, m2, -, -, t1, t2, t3⟩ := Go.Deep.trod_struct3 Tryz.underlying83 ti
      simp only [show Tryz.prog.cellsOf 9 = 1 by kernel_rfl, show Tryz.prog.cellsOf 4 = 1 by kernel_rfl, show Tryz.prog.cellsOf 30 = 1 by kernel_rfl, List.drop_zero, List.drop_succ_cons, List.take_succ_cons, List.take_zero, List.take_nil] at t1 t2 t3
      obtain ⟨k, e0, -, hk⟩ := DataW.trod_int Tryz.underlying3 t0
      obtain ⟨s, e1, -, hs⟩ := DataW.trod_string Tryz.underlying9 t1
      obtain ⟨bb, e2, -⟩ := DataW.trod_bool Tryz.underlying4 t2
      obtain ⟨u, xs, e3, hu⟩ := open_aints t3
      simp only [List.cons.injEq, and_true] at e0 e1 e2 e3
      subst e0; subst e1; subst e2; subst e3
      exact ⟨⟨k, ⟨s, bb, xs⟩⟩, by simpa using hcell 0 (by omega), i64_bd hk, by simpa using hcell 1 (by omega), hs, by simpa using hcell 2 (by omega), _, by simpa using hcell 3 (by omega), hu⟩) hf
  simp [Value.cells] at hcs
  subst hcs
  exact ⟨l, hl⟩
end
end Go.Proofs.YtbdgpbakhjpklaaGreatDoor
