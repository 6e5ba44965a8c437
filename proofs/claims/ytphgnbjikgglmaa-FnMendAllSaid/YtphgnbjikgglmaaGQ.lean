/- The program counts the uses of blocks. -/
import Derived.Test.YtphgnbjikgglmaaGP
import Derived.Test.YtphgnbjikgglmaaHG
import Derived.Test.YtphgnbjikgglmaaGF
import Derived.Maps.RangeWalk
set_option linter.all false
/-! The program counts the uses of blocks. -/
namespace Go.Sf
open Go Go.RowKit Go.Proofs Go.Maps Go.WideShapes
/-- block b is a map that tells numbers U by ids -/
def UsesAt (b N : Nat) (U : Int → Nat) (w : World) : Prop := ∃ n M, n ≤ N ∧ MapV TryG.prog 3 b n M w ∧ ∀ i, (M (kI i)).getD (.int .i64 0) = .int .i64 (U i : Nat)
theorem UsesAt.ext {b N : Nat} {U : Int → Nat} {w w' : World} (h : UsesAt b N U w) (e : Ext w w') : UsesAt b N U w' := let ⟨n, M, h1, h2, h3⟩ := h; ⟨n, M, h1, h2.ext e, h3⟩
theorem UsesAt.mono {b N N' : Nat} {U : Int → Nat} {w : World} (h : UsesAt b N U w) (e : N ≤ N') : UsesAt b N' U w := let ⟨n, M, h1, h2, h3⟩ := h; ⟨n, M, Nat.le_trans h1 e, h2, h3⟩
theorem UsesAt.made (w : World) : UsesAt w.heap.size 0 (fun _ => 0) (w.alloc (.map #[] 0)) := ⟨0, _, Nat.le_refl _, MapV.made w, fun _ => rfl⟩
section
variable {B b n r cnt : Nat} {l : List Hd} {D : DataW Value} {M : Lit → Option Value} {left : Lit → Bool} {w w0 : World} {ops : Array Oper} {rest : List Oper} {o : Oper} {a : Act} {Q : Exit → Act → World → Prop}
end
end Go.Sf

/-! The program's count of uses against a store. -/
namespace Go.Sf
open Go Go.RowKit Go.Proofs Go.Maps Go.WideShapes
section
variable {P : Program} {k e t : TypeId} {b n : Nat} {M : Lit → Option Value} {w : World} {ops : Array Oper} {rest : List Oper} {o : Oper} {a : Act} {Q : Exit → Act → World → Prop}
end
end Go.Sf

/-! The program opens a volume. -/
namespace Go.Sf
open Go Go.RowKit Go.Proofs Go.Maps
end Go.Sf
