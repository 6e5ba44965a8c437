/- From a law's walk to its row: bytes come in, true goes out. -/
import Derived.Test.YtadjkgdlpaddjaaDoorCards
import Derived.Test.YtadjkgdlpaddjaaDoorTie
import Derived.Test.YtadjkgdlpaddjaaDoorGE
import Derived.Test.YtadjkgdlpaddjaaDoorGA
import Derived.Test.YtadjkgdlpaddjaaDoorGC
import Derived.ProofKit
import Derived.Carry
import Derived.ChangeSlices
import Derived.Deep.DeepHandedRow
import Derived.Lib.LaidIn
import Derived.Shelf.Vars
import Derived.SevenTiedPlain
namespace Go.Proofs.YtadjkgdlpaddjaaDoor
open Go.ChangeShapes Go.WideShapes Go.ChangeAt Go.RowKit Go.Sf
theorem own : ownKnob Tryd.prog.godebug = none := by kernel_rfl
theorem laidOut : laidOutB Tryd.prog = true := by kernel_rfl
/-- the library's variable holds some int in every world that fits -/
theorem ml_of {W : World} (h : W.ShapedOpen Tryd.prog) : ML W :=
  cell_of_shapedOpen_int (t := 3) (zero := #[.int .i64 0]) h (of_decide_eq_true (by kernel_rfl)) (by kernel_rfl) (by kernel_rfl) (by kernel_rfl) (by kernel_rfl) Tryd.underlying3
theorem u8_bd {n : Int} (h : (Lit.int .u8 n).wf = true) : 0 ≤ n ∧ n ≤ 255 := by
  simp [Lit.wf, IntKind.min, IntKind.max, IntKind.signed, IntKind.bits] at h
  omega
/-- numbers of a table as cells -/
def lit1 : DataW Unit → List Value
  | .lit (.int k n) => [.int k n]
  | _ => []
def lits1 : DataW Unit → List Value
  | .agg ds => ds.flatMap lit1
  | d => lit1 d
def lits2 : DataW Unit → List Value
  | .agg ds => ds.flatMap lits1
  | d => lits1 d
/-- a world that holds the two tables -/
noncomputable def laidWorld (os : Os) : World :=
  let w0 := World.holding Tryd.prog os ⟨#[], #[], []⟩
  let put (h : Array Obj) (g : Nat) (cs : Array Value) : Array Obj := h.modify g fun
    | .cells _ t frozen => .cells cs t frozen
    | o => o
  let h1 := put w0.heap 1 (lits2 Rows.laid_unicode_utf8_first).toArray
  let h2 := put h1 2 (lits2 Rows.laid_unicode_utf8_acceptRanges).toArray
  { w0 with heap := h2 }
theorem laid_met (os : Os) (args : Array Value) : laidMet Tryd.prog Rows.fnExactDiskValidRow.laid ((laidWorld os).forCall (fun _ _ => 0) ⟨#[], args, []⟩).memory :=
  (LaidIn.of_run (l := Rows.fnExactDiskValidRow.laid) [1, 2] 8 (by kernel_rfl) (by kernel_rfl) (by kernel_rfl) (by kernel_rfl)).met
end Go.Proofs.YtadjkgdlpaddjaaDoor
