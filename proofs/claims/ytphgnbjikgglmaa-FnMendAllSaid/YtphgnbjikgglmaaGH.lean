/- The reference's ChangesOf. -/
import Derived.Test.YtphgnbjikgglmaaGD
import Derived.Test.YtphgnbjikgglmaaGB
import Derived.Test.YtphgnbjikgglmaaGA
import Derived.Deep.RegionHeld3
set_option linter.all false
/-! The reference's ChangesOf. -/
namespace Go.Sf
open Go Go.RowKit Go.Proofs
end Go.Sf
