/- Arguments that are blocks: how large they are; copies of them. -/
import Derived.Test.YtdnnojghjnjnfaaGreatDoorGL
import Derived.Test.YtdnnojghjnjnfaaGreatDoorGL
namespace Go.Sf
open Go Go.RowKit Go.Proofs
end Go.Sf
