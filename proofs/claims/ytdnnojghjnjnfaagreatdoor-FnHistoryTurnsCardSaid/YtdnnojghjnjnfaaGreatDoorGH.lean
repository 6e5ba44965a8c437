/- The reference's ChangesOf. -/
import Derived.Test.YtdnnojghjnjnfaaGreatDoorGD
import Derived.Test.YtdnnojghjnjnfaaGreatDoorGB
import Derived.Test.YtdnnojghjnjnfaaGreatDoorGA
import Derived.Deep.RegionHeld3
/-! The reference's ChangesOf. -/
namespace Go.Sf
open Go Go.RowKit Go.Proofs
/-- changes and whether there are some -/
def OptChs (B : Nat) (o : Option (List Ch)) (r : Value) (w : World) : Prop := ∃ v, r = .tuple #[v, .bool o.isSome] ∧ Chs B w v (o.getD [])
theorem OptChs.none_ {B g : Nat} {w : World} {o : Option (List Ch)} (h : o = none) : OptChs B o (.tuple #[.slice (some ⟨g, 0, none⟩) 0 0, .bool false]) w := by
  subst h; exact ⟨_, rfl, SlOf.empty _ _ _ _ _ _ _ (Nat.zero_le _) (fun _ => rfl)⟩
end Go.Sf
