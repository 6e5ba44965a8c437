/- The reference's ChangesOf. -/
import Derived.Test.YtbcccglgkeoehaaDoorGD
import Derived.Test.YtbcccglgkeoehaaDoorGB
import Derived.Test.YtbcccglgkeoehaaDoorGA
import Derived.Deep.RegionHeld3
/-! The reference's ChangesOf. -/
namespace Go.Sf
open Go Go.RowKit Go.Proofs
end Go.Sf
