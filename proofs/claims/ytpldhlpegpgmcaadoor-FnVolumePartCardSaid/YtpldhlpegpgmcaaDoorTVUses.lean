/- Laws of drawn volumes: each block is used as often as files have it. -/
import Derived.Test.YtpldhlpegpgmcaaDoorHB
import Derived.Test.YtpldhlpegpgmcaaDoorHC
import Derived.Test.YtpldhlpegpgmcaaDoorGS
namespace Go.Sf
open Go Go.RowKit Go.Proofs
theorem vol_store {s : List Hd} {t : List It} (h : volOk s t = true) : ∀ x, x ∈ s → 1 ≤ x.uses ∧ x.uses ≤ 999 := fun x hx => by
  obtain ⟨h1, -, -, -⟩ := volOk_iff.1 h
  obtain ⟨k, hk⟩ := List.mem_iff_getElem?.1 hx
  have := hd_ok ((storeOk_iff.1 h1).2 k x hk).1
  omega
end Go.Sf
