/- Files of volumes are read: the reference and the program. -/
import Derived.Test.YtpldhlpegpgmcaaDoorHF
import Derived.Test.YtpldhlpegpgmcaaDoorHG
import Derived.Test.YtpldhlpegpgmcaaDoorGA
import Derived.Test.YtpldhlpegpgmcaaDoorHH
/-! Files of volumes are read: the reference and the program. -/
namespace Go.Sf
open Go Go.RowKit Go.Proofs Go.Maps
/-- some ints and whether there are some -/
def OptInts (B : Nat) (o : Option (List Int)) (r : Value) (w : World) : Prop := ∃ u, r = .tuple #[u, .bool o.isSome] ∧ Ints B w u (o.getD [])
theorem OptInts.none_ {B g : Nat} {w : World} {o : Option (List Int)} (h : o = none) : OptInts B o (.tuple #[.slice (some ⟨g, 0, none⟩) 0 0, .bool false]) w := by
  subst h; exact ⟨_, rfl, SlOf.empty _ _ _ _ _ _ _ (Nat.zero_le _) (fun _ => rfl)⟩
end Go.Sf

/-! Files of volumes are read: the program's way. -/
namespace Go.Sf
open Go Go.RowKit Go.Proofs Go.Maps
end Go.Sf

/-! The exact law of VolumeRead. -/
namespace Go.Sf
open Go Go.RowKit Go.Proofs
end Go.Sf
