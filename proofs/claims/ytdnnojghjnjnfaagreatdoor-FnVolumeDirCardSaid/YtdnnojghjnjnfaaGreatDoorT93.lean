/- Snapshots are compared. -/
import Derived.Test.YtdnnojghjnjnfaaGreatDoorGC
namespace Go.Sf
open Go Go.RowKit Go.Proofs


end Go.Sf
