/- The program's TreeValid. -/
import Derived.Test.YtdnnojghjnjnfaaGreatDoorGF
namespace Go.Sf
open Go Go.RowKit Go.Proofs
end Go.Sf
