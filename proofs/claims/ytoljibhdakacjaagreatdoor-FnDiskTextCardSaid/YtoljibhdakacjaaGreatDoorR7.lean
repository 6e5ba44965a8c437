/- A world that holds the tables of numbers as text, too. -/
import Derived.Test.YtoljibhdakacjaaGreatDoorR0
namespace Go.Proofs.YtoljibhdakacjaaGreatDoor
open Go.ChangeShapes Go.WideShapes Go.ChangeAt Go.RowKit Go.Sf
noncomputable def putAt (h : Array Obj) (g : Nat) (cs : Array Value) : Array Obj := h.modify g fun
  | .cells _ t frozen => .cells cs t frozen
  | o => o
noncomputable def laidWorldT (os : Os) : World :=
  let w0 := laidWorld os
  let h1 := putAt w0.heap 1 (lits2 Rows.laid_internal_strconv_uint64pow10).toArray
  let h2 := putAt h1 3 (lits2 Rows.laid_math_bits_deBruijn32tab).toArray
  let h3 := putAt h2 4 (lits2 Rows.laid_math_bits_deBruijn64tab).toArray
  { w0 with heap := h3 }
end Go.Proofs.YtoljibhdakacjaaGreatDoor
