/- What changes are made of. -/
import Derived.Test.YtoljibhdakacjaaGreatDoorGB
import Derived.Test.YtoljibhdakacjaaGreatDoorHI
import Derived.Test.YtoljibhdakacjaaGreatDoorHF
import Derived.Test.YtoljibhdakacjaaGreatDoorGH
import Derived.Test.YtoljibhdakacjaaGreatDoorHG
import Derived.Test.YtoljibhdakacjaaGreatDoorGS
import Derived.Test.YtoljibhdakacjaaGreatDoorGR
import Derived.Test.YtoljibhdakacjaaGreatDoorT21
import Derived.Test.YtoljibhdakacjaaGreatDoorHE
/-! What changes are made of. -/
namespace Go.Sf
end Go.Sf

/-! The reference's streams. -/
namespace Go.Sf
open Go Go.RowKit Go.Proofs
end Go.Sf

/-! The program's parts of a stream. -/
namespace Go.Sf
open Go Go.RowKit Go.Proofs
end Go.Sf

/-! The program makes a part. -/
namespace Go.Sf
open Go Go.RowKit Go.Proofs
end Go.Sf
