/- The reference's ChangesOf. -/
import Derived.Test.YtpldhlpegpgmcaaDoorGD
import Derived.Test.YtpldhlpegpgmcaaDoorGB
import Derived.Test.YtpldhlpegpgmcaaDoorGA
import Derived.Deep.RegionHeld3
/-! The reference's ChangesOf. -/
namespace Go.Sf
open Go Go.RowKit Go.Proofs
end Go.Sf
