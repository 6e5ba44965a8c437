/- An argument that is a volume: how it reads, by its cells. -/
import Derived.Test.YtmgnmfkkikmedaaGreatDoorR1
import Derived.Test.YtmgnmfkkikmedaaGreatDoorT88
namespace Go.Proofs.YtmgnmfkkikmedaaGreatDoor
open Go.ChangeShapes Go.WideShapes Go.ChangeAt Go.RowKit Go.Sf
section
variable {H : Type} {enc : TypeId × Value → H} {W : World} {fuel : Nat} {x : DataW H × List MemPlace}
set_option maxRecDepth 100000 in
theorem rows_items {cs : List Value} (hf : DataW.trod enc Tryz.prog W 0 (fun _ => true) true fuel 23 cs = some x) : ∃ u l, cs = [u] ∧ AIts W u l :=
  open_rows (E := AIt) Tryz.underlying23 (sz := 3) (by kernel_rfl) (by decide) (fun n b p cs' y hlen hcell ht => by
    obtain ⟨y0, y1, y2, m, -, -, t0, t1, t2⟩ := Go.Deep.trod_struct3 Tryz.underlying155 ht
    match cs', hlen with
    | [c0, c1, c2], _ =>
      simp only [show Tryz.prog.cellsOf 9 = 1 by kernel_rfl, show Tryz.prog.cellsOf 4 = 1 by kernel_rfl, show Tryz.prog.cellsOf 47 = 1 by kernel_rfl, List.drop_zero, List.drop_succ_cons, List.take_succ_cons, List.take_zero, List.take_nil] at t0 t1 t2
      obtain ⟨s, e0, -, hs⟩ := DataW.trod_string Tryz.underlying9 t0
      obtain ⟨bb, e1, -⟩ := DataW.trod_bool Tryz.underlying4 t1
      obtain ⟨u, xs, e2, hu⟩ := open_aints t2
      simp only [List.cons.injEq, and_true] at e0 e1 e2
      subst e0; subst e1; subst e2
      exact ⟨⟨s, bb, xs⟩, hcell 0 (by omega), hs, hcell 1 (by omega), _, hcell 2 (by omega), hu⟩) hf
set_option maxRecDepth 100000 in
theorem rows_helds {cs : List Value} (hf : DataW.trod enc Tryz.prog W 0 (fun _ => true) true fuel 22 cs = some x) : ∃ u l, cs = [u] ∧ AHds W u l :=
  open_rows (E := AHd) Tryz.underlying22 (sz := 3) (by kernel_rfl) (by decide) (fun n b p cs' y hlen hcell ht => by
    obtain ⟨y0, y1, y2, m, -, -, t0, t1, t2⟩ := Go.Deep.trod_struct3 Tryz.underlying153 ht
    match cs', hlen with
    | [c0, c1, c2], _ =>
      simp only [show Tryz.prog.cellsOf 3 = 1 by kernel_rfl, show Tryz.prog.cellsOf 47 = 1 by kernel_rfl, List.drop_zero, List.drop_succ_cons, List.take_succ_cons, List.take_zero, List.take_nil] at t0 t1 t2
      obtain ⟨k, e0, -, hk⟩ := DataW.trod_int Tryz.underlying3 t0
      obtain ⟨u, xs, e1, hu⟩ := open_aints t1
      obtain ⟨q, e2, -, hq⟩ := DataW.trod_int Tryz.underlying3 t2
      simp only [List.cons.injEq, and_true] at e0 e1 e2
      subst e0; subst e1; subst e2
      exact ⟨⟨k, xs, q⟩, hcell 0 (by omega), i64_bd hk, ⟨_, hcell 1 (by omega), hu⟩, hcell 2 (by omega), i64_bd hq⟩) hf
set_option maxRecDepth 100000 in
theorem open_helds {v : Value} {d : DataW H} {p : List MemPlace} {base : Nat} (hval : Value.okWide Tryz.prog W .any base 22 v) (h : DataW.Trod enc Tryz.prog W 0 (fun _ => true) true 22 v d p) : ∃ l, AHds W v l := by
  obtain ⟨a0, n0, c0, rfl⟩ := okWide_slice Tryz.underlying22 hval
  obtain ⟨fuel, hf⟩ := h
  obtain ⟨u, l, e, h⟩ := rows_helds hf
  simp [Value.cells] at e
  subst e
  exact ⟨l, h⟩
end
end Go.Proofs.YtmgnmfkkikmedaaGreatDoor
