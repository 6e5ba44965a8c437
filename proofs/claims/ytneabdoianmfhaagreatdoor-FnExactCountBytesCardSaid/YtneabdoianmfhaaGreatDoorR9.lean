/- The library's variable that holds the type error: what a row's list tells of it; a world that holds it. -/
import Derived.Test.YtneabdoianmfhaaGreatDoorR0
import Derived.Test.YtneabdoianmfhaaGreatDoorT111
import Derived.LaidHandle
import Derived.LaidLaws
import Derived.Stop.Joined
namespace Go.Proofs.YtneabdoianmfhaaGreatDoor
open Go.ChangeShapes Go.WideShapes Go.ChangeAt Go.RowKit Go.Sf
theorem gT : Tryz.prog.globalNamed "errors.errorType" = some 1 := by kernel_rfl
theorem rT : (Tryz.prog.cutTypes.find? (·.1 == "internal/reflectlite.rtype")).map (·.2) = some 263 := by kernel_rfl
theorem oneRowT : ((List.range 359).filter fun t => Tryz.prog.rowNamed t [101, 114, 114, 111, 114]) = [90] := by kernel_rfl
theorem sizeT : Tryz.prog.types.size = 359 := by kernel_rfl
/-- what the row's list tells of the variable -/
theorem et_of {W : World} (h : laidMetH Tryz.prog Rows.fnExactCountSharedRow.laid W) : ET W := by
  have h' : laidMet Tryz.prog (Rows.fnExactCountSharedRow.laid.filter fun x => x.2.handleName?.isNone) W ∧ handlesMet Tryz.prog [("errors.errorType", Rows.laid_errors_errorType)] W := h
  obtain ⟨name, u, ty, e1, e2, e3, e4, e5⟩ := h'.2 _ (List.mem_singleton.2 rfl)
  have en : name = [101, 114, 114, 111, 114] := (Option.some.inj e1).symm
  subst en
  obtain rfl := Option.some.inj (rT.symm.trans e2)
  have hm : ty ∈ (List.range 359).filter fun t => Tryz.prog.rowNamed t [101, 114, 114, 111, 114] := List.mem_filter.2 ⟨List.mem_range.2 (by rw [← sizeT]; exact e3), e4⟩
  rw [oneRowT] at hm
  obtain rfl := List.mem_singleton.1 hm
  have hh : typeHandle Tryz.prog 90 = .pointer (some ⟨5, 90, none⟩) := by kernel_rfl
  rw [hh] at e5
  unfold ET
  simpa using World.var?_cell gT e5 0
noncomputable def laidWorldH (os : Os) : World :=
  let w0 := laidWorld os
  let put (h : Array Obj) (g : Nat) (cs : Array Value) : Array Obj := h.modify g fun
    | .cells _ t frozen => .cells cs t frozen
    | o => o
  { w0 with heap := put w0.heap 1 #[.iface 263 (.agg #[.pointer (some ⟨5, 90, none⟩)])] }
theorem laid_metH (os : Os) (args : Array Value) : laidMetH Tryz.prog Rows.fnExactCountSharedRow.laid ((laidWorldH os).forCall (fun _ _ => 0) ⟨#[], args, []⟩).memory :=
  laidMetH_of_parts (LaidIn.of_run (l := Rows.fnExactCountSharedRow.laid.filter fun x => x.2.handleName?.isNone) [4, 3] 8 (by kernel_rfl) (by kernel_rfl) (by kernel_rfl) (by kernel_rfl)).met (by kernel_rfl)
end Go.Proofs.YtneabdoianmfhaaGreatDoor
