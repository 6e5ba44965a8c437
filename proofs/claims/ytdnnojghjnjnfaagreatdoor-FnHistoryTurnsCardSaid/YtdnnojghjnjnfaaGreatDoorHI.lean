/- The last snapshot with a file: the reference and the program. -/
import Derived.Test.YtdnnojghjnjnfaaGreatDoorGR
import Derived.Test.YtdnnojghjnjnfaaGreatDoorHF
import Derived.Test.YtdnnojghjnjnfaaGreatDoorHG
import Derived.Test.YtdnnojghjnjnfaaGreatDoorHH
/-! The last snapshot with a file: the reference and the program. -/
namespace Go.Sf
open Go Go.RowKit Go.Proofs Go.Maps
end Go.Sf

/-! How many blocks of a disk are shared: the reference and the program. -/
namespace Go.Sf
open Go Go.RowKit Go.Proofs Go.Maps
end Go.Sf

/-! How many bytes only a snapshot has: the reference and the program. -/
namespace Go.Sf
open Go Go.RowKit Go.Proofs Go.Maps
end Go.Sf
