/- Disks are checked: the reference's way. -/
import Derived.Test.YtpldhlpegpgmcaaDoorHF
/-! Disks are checked: the reference's way. -/
namespace Go.Sf
open Go Go.RowKit Go.Proofs
end Go.Sf

/-! The program opens a disk. -/
namespace Go.Sf
open Go Go.RowKit Go.Proofs Go.Maps
end Go.Sf
