/- What changes are made of. -/
import Derived.Test.YtdnnojghjnjnfaaGreatDoorGB
import Derived.Test.YtdnnojghjnjnfaaGreatDoorHI
import Derived.Test.YtdnnojghjnjnfaaGreatDoorHF
import Derived.Test.YtdnnojghjnjnfaaGreatDoorGH
import Derived.Test.YtdnnojghjnjnfaaGreatDoorHG
import Derived.Test.YtdnnojghjnjnfaaGreatDoorGS
import Derived.Test.YtdnnojghjnjnfaaGreatDoorGR
import Derived.Test.YtdnnojghjnjnfaaGreatDoorT21
import Derived.Test.YtdnnojghjnjnfaaGreatDoorHE
/-! What changes are made of. -/
namespace Go.Sf
def ChFrom (a b : List It) (c : Ch) : Prop := (c.kind = 1 ∨ c.kind = 2 ∨ c.kind = 3) ∧ (c.item ∈ a ∨ c.item ∈ b)
theorem ChFrom.mono {a b a' b' : List It} {c : Ch} (h : ChFrom a b c) (ha : ∀ x, x ∈ a → x ∈ a') (hb : ∀ x, x ∈ b → x ∈ b') : ChFrom a' b' c := ⟨h.1, h.2.imp (ha _) (hb _)⟩
end Go.Sf

/-! The reference's streams. -/
namespace Go.Sf
open Go Go.RowKit Go.Proofs
/-- parts and whether there are some -/
def OptPts (B : Nat) (o : Option (List Pt)) (r : Value) (w : World) : Prop := ∃ v, r = .tuple #[v, .bool o.isSome] ∧ Pts B w v (o.getD [])
theorem OptPts.none_ {B g : Nat} {w : World} {o : Option (List Pt)} (h : o = none) : OptPts B o (.tuple #[.slice (some ⟨g, 0, none⟩) 0 0, .bool false]) w := by
  subst h; exact ⟨_, rfl, SlOf.empty _ _ _ _ _ _ _ (Nat.zero_le _) (fun _ => rfl)⟩
end Go.Sf

/-! The program's parts of a stream. -/
namespace Go.Sf
open Go Go.RowKit Go.Proofs
end Go.Sf

/-! The program makes a part. -/
namespace Go.Sf
open Go Go.RowKit Go.Proofs
end Go.Sf
