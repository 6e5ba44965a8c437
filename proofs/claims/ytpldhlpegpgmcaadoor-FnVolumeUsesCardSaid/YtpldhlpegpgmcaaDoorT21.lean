/- The program's changes of two trees. -/
import Derived.Test.YtpldhlpegpgmcaaDoorGF
import Derived.Test.YtpldhlpegpgmcaaDoorGF
import Derived.Test.YtpldhlpegpgmcaaDoorGF
import Derived.Test.YtpldhlpegpgmcaaDoorGH
namespace Go.Sf
open Go Go.RowKit Go.Proofs
end Go.Sf
