/- errors.As at a struct of the program's own: nil, or that struct. -/
import Derived.Test.YtmgnmfkkikmedaaGreatDoorGD
import Derived.LaidEql
import Derived.Stop.Asserts
import Derived.RowKitTokens
namespace Go.Sf
open Go Go.RowKit Go.Proofs Go.Extern.Stop Go.Stop Go.Extern
end Go.Sf
