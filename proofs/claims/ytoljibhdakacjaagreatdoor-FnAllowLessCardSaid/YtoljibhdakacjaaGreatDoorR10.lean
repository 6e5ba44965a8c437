/- A world that holds the program's one error: what rows of drawn quotas list. -/
import Derived.Test.YtoljibhdakacjaaGreatDoorR0
import Derived.Test.YtoljibhdakacjaaGreatDoorHJ
import Derived.Stop.LaidErr
import Derived.WalkSmall
namespace Go.Proofs.YtoljibhdakacjaaGreatDoor
open Go.ChangeShapes Go.WideShapes Go.ChangeAt Go.RowKit Go.Sf
open Go.Extern.Stop Go.Stop Go.Extern
theorem gE : Tryz.prog.globalNamed "loop.example/snapshotfiles/impl.errBroken" = some 0 := by kernel_rfl
theorem gEType : (Tryz.prog.globals[0]?).map (·.type) = some 100 := by kernel_rfl
theorem starE : "*" ++ "errors.errorString" = "*errors.errorString" := by decide
theorem rowE (u : TypeId) (h : Tryz.prog.typeName? 3 u = some "*errors.errorString") : u = 299 :=
  typeName_ptr_named (nm := "errors.errorString") (by rw [starE]; kernel_rfl) (by kernel_rfl) (by decide) u (by rw [starE]; exact h)
abbrev laidE : List (String × DataW Unit) := Rows.fnOverRow.laid
/-- what the row's list tells of the error -/
theorem broken_of {W : World} (h : laidMetH Tryz.prog laidE W) : ∃ a, W.var? Tryz.prog "loop.example/snapshotfiles/impl.errBroken" = some #[.iface 299 (.pointer (some a))] ∧ EB a W := by
  have h1 : laidMet Tryz.prog laidE W := h
  obtain ⟨a, s, hv, -⟩ := laid_sentinel h1.tail gE gEType Tryz.underlying100 rowE Tryz.underlying299 Tryz.underlying321 rfl rfl Tryz.underlying9 (by kernel_rfl) (by kernel_rfl)
  exact ⟨a, hv, by unfold EB; simpa using World.var?_cell gE hv 0⟩
noncomputable def lowE : Nat := (World.holding Tryz.prog default ⟨#[], #[], []⟩).heap.size
noncomputable def laidWorldE (os : Os) : World :=
  let w0 := laidWorld os
  let put (h : Array Obj) (g : Nat) (cs : Array Value) : Array Obj := h.modify g fun
    | .cells _ t frozen => .cells cs t frozen
    | o => o
  { w0 with heap := (put w0.heap 0 #[.iface 299 (.pointer (some ⟨w0.heap.size, 0, none⟩))]).push (.cells #[.string ⟨#[113, 117, 111, 116, 97, 32, 105, 115, 32, 98, 114, 111, 107, 101, 110]⟩] 321) }
theorem laid_metE (os : Os) (args : Array Value) : laidMetH Tryz.prog laidE ((laidWorldE os).forCall (fun _ _ => 0) ⟨#[], args, []⟩).memory :=
  (LaidIn.of_run (l := laidE) [6, 0, 5, lowE] 8 (by kernel_rfl) (by kernel_rfl) (by kernel_rfl) (by kernel_rfl)).met
end Go.Proofs.YtoljibhdakacjaaGreatDoor
