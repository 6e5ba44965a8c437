/- The program's TreeValid. -/
import Derived.Test.YtmgnmfkkikmedaaGreatDoorGF
namespace Go.Sf
open Go Go.RowKit Go.Proofs
end Go.Sf
