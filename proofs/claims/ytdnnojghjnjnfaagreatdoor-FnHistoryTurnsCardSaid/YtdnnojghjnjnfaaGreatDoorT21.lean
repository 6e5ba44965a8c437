/- The program's changes of two trees. -/
import Derived.Test.YtdnnojghjnjnfaaGreatDoorGF
import Derived.Test.YtdnnojghjnjnfaaGreatDoorGF
import Derived.Test.YtdnnojghjnjnfaaGreatDoorGF
import Derived.Test.YtdnnojghjnjnfaaGreatDoorGH
namespace Go.Sf
open Go Go.RowKit Go.Proofs
theorem OptChs.nil_ {B : Nat} {w : World} {o : Option (List Ch)} (h : o = none) : OptChs B o (.tuple #[.slice none 0 0, .bool false]) w := by
  subst h; exact ⟨_, rfl, SlOf.nil _ _ _ _ _⟩
theorem OptChs.some_ {B : Nat} {w : World} {o : Option (List Ch)} {L : List Ch} {v : Value} (h : o = some L) (hs : Chs B w v L) : OptChs B o (.tuple #[v, .bool true]) w := by
  subst h; exact ⟨_, rfl, hs⟩
end Go.Sf
