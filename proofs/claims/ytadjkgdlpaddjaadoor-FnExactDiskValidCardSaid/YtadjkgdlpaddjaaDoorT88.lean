/- Arguments that are volumes; the exact law of VolumeValid. -/
import Derived.Test.YtadjkgdlpaddjaaDoorGQ
import Derived.Test.YtadjkgdlpaddjaaDoorX8
namespace Go.Sf
open Go Go.RowKit Go.Proofs
theorem bkl_len (l : List It) : l.length ≤ bkIts l := by unfold bkIts; omega
theorem HdsU.keepT {B : Nat} {t : TypeId} {w w' : World} {v : Value} {lu : List (Hd × Value)} (h : HdsU B w v lu) (hk : KeepsT t w w') (h1 : 46 ≠ t) (h2 : 3 ≠ t) : HdsU B w' v lu := SlOf.keepT h hk h1 fun _ _ _ h => h.keepT hk h2
theorem ItsU.keepT {B : Nat} {t : TypeId} {w w' : World} {v : Value} {lu : List (It × Value)} (h : ItsU B w v lu) (hk : KeepsT t w w') (h1 : 68 ≠ t) (h2 : 3 ≠ t) : ItsU B w' v lu := SlOf.keepT h hk h1 fun _ _ _ h => h.keepT hk h2
end Go.Sf
