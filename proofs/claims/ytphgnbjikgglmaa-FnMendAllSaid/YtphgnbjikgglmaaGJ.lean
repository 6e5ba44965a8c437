/- Paths within others and paths moved: the reference's and the program's. -/
import Derived.Test.YtphgnbjikgglmaaGE
import Derived.Test.YtphgnbjikgglmaaGI
import Derived.Test.YtphgnbjikgglmaaGD
set_option linter.all false
/-! Paths within others and paths moved: the reference's and the program's. -/
namespace Go.Sf
open Go Go.RowKit Go.Proofs
end Go.Sf

/-! The reference puts an item into a tree. -/
namespace Go.Sf
open Go Go.RowKit Go.Proofs
end Go.Sf

/-! The reference moves and clones items of a tree. -/
namespace Go.Sf
open Go Go.RowKit Go.Proofs
end Go.Sf

/-! The reference moves and clones: the parts put together. -/
namespace Go.Sf
open Go Go.RowKit Go.Proofs
end Go.Sf

/-! The reference's TreeMove and TreeClone. -/
namespace Go.Sf
open Go Go.RowKit Go.Proofs
end Go.Sf
