/- The program's changes of two trees. -/
import Derived.Test.YtoljibhdakacjaaGreatDoorGF
import Derived.Test.YtoljibhdakacjaaGreatDoorGF
import Derived.Test.YtoljibhdakacjaaGreatDoorGF
import Derived.Test.YtoljibhdakacjaaGreatDoorGH
namespace Go.Sf
open Go Go.RowKit Go.Proofs
end Go.Sf
