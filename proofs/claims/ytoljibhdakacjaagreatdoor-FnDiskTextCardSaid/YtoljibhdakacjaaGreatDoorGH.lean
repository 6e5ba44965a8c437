/- The reference's ChangesOf. -/
import Derived.Test.YtoljibhdakacjaaGreatDoorGD
import Derived.Test.YtoljibhdakacjaaGreatDoorGB
import Derived.Test.YtoljibhdakacjaaGreatDoorGA
import Derived.Deep.RegionHeld3
/-! The reference's ChangesOf. -/
namespace Go.Sf
open Go Go.RowKit Go.Proofs
end Go.Sf
