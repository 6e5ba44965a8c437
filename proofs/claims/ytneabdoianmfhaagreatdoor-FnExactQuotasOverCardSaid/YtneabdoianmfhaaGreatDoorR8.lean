/- An argument of quotas: how it reads; a world that holds the program's one error. -/
import Derived.Test.YtneabdoianmfhaaGreatDoorR4
import Derived.Test.YtneabdoianmfhaaGreatDoorX12
import Derived.Test.YtneabdoianmfhaaGreatDoorT105
import Derived.Stop.LaidErr
import Derived.WalkSmall
namespace Go.Proofs.YtneabdoianmfhaaGreatDoor
open Go.ChangeShapes Go.WideShapes Go.ChangeAt Go.RowKit Go.Sf
open Go.Extern.Stop Go.Stop Go.Extern
section
variable {H : Type} {enc : TypeId × Value → H} {W : World} {fuel : Nat} {x : DataW H × List MemPlace}
set_option maxRecDepth 100000 in
theorem rows_quotas {cs : List Value} (hf : DataW.trod enc Tryz.prog W 0 (fun _ => true) true fuel 51 cs = some x) : ∃ u l, cs = [u] ∧ AQts W u l :=
  open_rows (E := AQt) Tryz.underlying51 (sz := 2) (by kernel_rfl) (by decide) (fun n b p cs' y hlen hcell ht => by
    obtain ⟨y0, y1, m, -, -, t0, t1⟩ := Go.ChangeShapes.trod_struct2 Tryz.underlying157 ht
    match cs', hlen with
    | [c0, c1], _ =>
      simp only [show Tryz.prog.cellsOf 9 = 1 by kernel_rfl, show Tryz.prog.cellsOf 3 = 1 by kernel_rfl, List.drop_zero, List.drop_succ_cons, List.take_succ_cons, List.take_zero, List.take_nil] at t0 t1
      obtain ⟨s, e0, -, hs⟩ := DataW.trod_string Tryz.underlying9 t0
      obtain ⟨k, e1, -, hk⟩ := DataW.trod_int Tryz.underlying3 t1
      simp only [List.cons.injEq, and_true] at e0 e1
      subst e0; subst e1
      exact ⟨⟨s, k⟩, hcell 0 (by omega), hs, hcell 1 (by omega), i64_bd hk⟩) hf
set_option maxRecDepth 100000 in
theorem open_quotas {v : Value} {d : DataW H} {p : List MemPlace} {base : Nat} (hval : Value.okWide Tryz.prog W .any base 51 v) (h : DataW.Trod enc Tryz.prog W 0 (fun _ => true) true 51 v d p) : ∃ l, AQts W v l := by
  obtain ⟨a0, n0, c0, rfl⟩ := okWide_slice Tryz.underlying51 hval
  obtain ⟨fuel, hf⟩ := h
  obtain ⟨u, l, e, h⟩ := rows_quotas hf
  simp [Value.cells] at e
  subst e
  exact ⟨l, h⟩
end
theorem gE : Tryz.prog.globalNamed "loop.example/snapshotfiles/impl.errBroken" = some 0 := by kernel_rfl
theorem gEType : (Tryz.prog.globals[0]?).map (·.type) = some 90 := by kernel_rfl
theorem starE : "*" ++ "errors.errorString" = "*errors.errorString" := by decide
theorem rowE (u : TypeId) (h : Tryz.prog.typeName? 3 u = some "*errors.errorString") : u = 327 :=
  typeName_ptr_named (nm := "errors.errorString") (by rw [starE]; kernel_rfl) (by kernel_rfl) (by decide) u (by rw [starE]; exact h)
abbrev laidE : List (String × DataW Unit) := Rows.fnExactQuotasOverRow.laid
/-- what the row's list tells of the error -/
theorem broken_of {W : World} (h : laidMetH Tryz.prog laidE W) : ∃ a, W.var? Tryz.prog "loop.example/snapshotfiles/impl.errBroken" = some #[.iface 327 (.pointer (some a))] ∧ EB a W := by
  have h1 : laidMet Tryz.prog laidE W := h
  obtain ⟨a, s, hv, -⟩ := laid_sentinel h1.tail gE gEType Tryz.underlying90 rowE Tryz.underlying327 Tryz.underlying347 rfl rfl Tryz.underlying9 (by kernel_rfl) (by kernel_rfl)
  exact ⟨a, hv, by unfold EB; simpa using World.var?_cell gE hv 0⟩
noncomputable def lowE : Nat := (World.holding Tryz.prog default ⟨#[], #[], []⟩).heap.size
noncomputable def laidWorldE (os : Os) : World :=
  let w0 := laidWorld os
  let put (h : Array Obj) (g : Nat) (cs : Array Value) : Array Obj := h.modify g fun
    | .cells _ t frozen => .cells cs t frozen
    | o => o
  { w0 with heap := (put w0.heap 0 #[.iface 327 (.pointer (some ⟨w0.heap.size, 0, none⟩))]).push (.cells #[.string ⟨#[113, 117, 111, 116, 97, 32, 105, 115, 32, 98, 114, 111, 107, 101, 110]⟩] 347) }
theorem laid_metE (os : Os) (args : Array Value) : laidMetH Tryz.prog laidE ((laidWorldE os).forCall (fun _ _ => 0) ⟨#[], args, []⟩).memory :=
  (LaidIn.of_run (l := laidE) [4, 0, 3, lowE] 8 (by kernel_rfl) (by kernel_rfl) (by kernel_rfl) (by kernel_rfl)).met
end Go.Proofs.YtneabdoianmfhaaGreatDoor
