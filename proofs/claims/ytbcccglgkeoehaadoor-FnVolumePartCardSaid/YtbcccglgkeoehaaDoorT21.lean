/- The program's changes of two trees. -/
import Derived.Test.YtbcccglgkeoehaaDoorGF
import Derived.Test.YtbcccglgkeoehaaDoorGF
import Derived.Test.YtbcccglgkeoehaaDoorGF
import Derived.Test.YtbcccglgkeoehaaDoorGH
namespace Go.Sf
open Go Go.RowKit Go.Proofs
end Go.Sf
