/- An argument that is a disk: how it reads, by its cells. -/
import Derived.Test.YtmgnmfkkikmedaaGreatDoorR4
import Derived.Test.YtmgnmfkkikmedaaGreatDoorX9
namespace Go.Proofs.YtmgnmfkkikmedaaGreatDoor
open Go.ChangeShapes Go.WideShapes Go.ChangeAt Go.RowKit Go.Sf
section
variable {H : Type} {enc : TypeId × Value → H} {W : World} {fuel : Nat} {x : DataW H × List MemPlace}
set_option maxRecDepth 100000 in
theorem rows_snaps {cs : List Value} (hf : DataW.trod enc Tryz.prog W 0 (fun _ => true) true fuel 24 cs = some x) : ∃ u l, cs = [u] ∧ ASns W u l :=
  open_rows (E := ASn) Tryz.underlying24 (sz := 2) (by kernel_rfl) (by decide) (fun n b p cs' y hlen hcell ht => by
    obtain ⟨y0, y1, m, -, -, t0, t1⟩ := Go.ChangeShapes.trod_struct2 Tryz.underlying158 ht
    match cs', hlen with
    | [c0, c1], _ =>
      simp only [show Tryz.prog.cellsOf 9 = 1 by kernel_rfl, show Tryz.prog.cellsOf 23 = 1 by kernel_rfl, List.drop_zero, List.drop_succ_cons, List.take_succ_cons, List.take_zero, List.take_nil] at t0 t1
      obtain ⟨s, e0, -, hs⟩ := DataW.trod_string Tryz.underlying9 t0
      obtain ⟨u, xs, e1, hu⟩ := rows_items t1
      simp only [List.cons.injEq, and_true] at e0 e1
      subst e0; subst e1
      exact ⟨⟨s, xs⟩, hcell 0 (by omega), hs, _, hcell 1 (by omega), hu⟩) hf
/-- a disk by value: its three slices, its blocks, its items and its snapshots -/
def ADisk (W : World) (q : Value × Value × Value × List Hd × List It × List Sn) : Prop := AHds W q.1 q.2.2.2.1 ∧ AIts W q.2.1 q.2.2.2.2.1 ∧ ASns W q.2.2.1 q.2.2.2.2.2
set_option maxRecDepth 100000 in
theorem open_disk {v : Value} {d : DataW H} {p : List MemPlace} {base : Nat} (hval : Value.okWide Tryz.prog W .any base 26 v) (h : DataW.Trod enc Tryz.prog W 0 (fun _ => true) true 26 v d p) :
    ∃ q : Value × Value × Value × List Hd × List It × List Sn, v = .agg #[q.1, q.2.1, q.2.2.1] ∧ ADisk W q := by
  obtain ⟨cs, rfl, hsz⟩ := okWide_struct Tryz.underlying26 hval
  rw [show Tryz.prog.cellsOf 26 = 3 by kernel_rfl] at hsz
  obtain ⟨fuel, hf⟩ := h
  obtain ⟨c0, c1, c2, hc⟩ : ∃ c0 c1 c2, cs = #[c0, c1, c2] := by
    obtain ⟨l⟩ := cs
    match l, hsz with
    | [c0, c1, c2], _ => exact ⟨c0, c1, c2, rfl⟩
  subst hc
  simp only [Value.cells] at hf
  obtain ⟨y0, y1, y2, m, -, -, t0, t1, t2⟩ := Go.Deep.trod_struct3 Tryz.underlying26 hf
  simp only [show Tryz.prog.cellsOf 22 = 1 by kernel_rfl, show Tryz.prog.cellsOf 23 = 1 by kernel_rfl, show Tryz.prog.cellsOf 24 = 1 by kernel_rfl, List.drop_zero, List.drop_succ_cons, List.take_succ_cons, List.take_zero, List.take_nil] at t0 t1 t2
  obtain ⟨u0, l0, e0, h0⟩ := rows_helds t0
  obtain ⟨u1, l1, e1, h1⟩ := rows_items t1
  obtain ⟨u2, l2, e2, h2⟩ := rows_snaps t2
  simp only [List.cons.injEq, and_true] at e0 e1 e2
  subst e0; subst e1; subst e2
  exact ⟨(c0, c1, c2, l0, l1, l2), rfl, h0, h1, h2⟩
set_option maxRecDepth 100000 in
theorem open_int {v : Value} {d : DataW H} {p : List MemPlace} {base : Nat} (hval : Value.okWide Tryz.prog W .any base 3 v) (h : DataW.Trod enc Tryz.prog W 0 (fun _ => true) true 3 v d p) : ∃ k : Int, v = .int .i64 k ∧ inI k := by
  obtain ⟨k, rfl⟩ := okWide_int Tryz.underlying3 hval
  obtain ⟨fuel, hf⟩ := h
  obtain ⟨k', hc, -, hk⟩ := DataW.trod_int Tryz.underlying3 hf
  simp [Value.cells] at hc
  subst hc
  exact ⟨k, rfl, i64_bd hk⟩
end
end Go.Proofs.YtmgnmfkkikmedaaGreatDoor
