/- The reference's functions on items and trees that answer a number or a bool. -/
import Derived.Test.YtphgnbjikgglmaaGC
import Derived.Test.YtphgnbjikgglmaaGB
import Derived.Test.YtphgnbjikgglmaaGA
import Derived.StillTailTactics
set_option linter.all false
/-! The reference's functions on items and trees that answer a number or a bool. -/
namespace Go.Sf
open Go Go.RowKit Go.Proofs
/-- the first k ids of an item are in order -/
def IdsTo (xd : Bool) (xi : List Int) (k : Nat) : Prop := ∀ j q, j < k → xi[j]? = some q → (!xd && inB q 1 99) = true
theorem lt_of_get {α : Type} {l : List α} {k : Nat} {x : α} (h : l[k]? = some x) : k < l.length := by
  rcases Nat.lt_or_ge k l.length with hlt | hge
  · exact hlt
  · rw [List.getElem?_eq_none hge] at h; cases h
theorem IdsTo.succ {xd : Bool} {xi : List Int} {k : Nat} {q : Int} (h : IdsTo xd xi k) (hx : xi[k]? = some q) (hq : (!xd && inB q 1 99) = true) : IdsTo xd xi (k + 1) := fun j p hj hp => by
  rcases Nat.lt_or_ge j k with hlt | hge
  · exact h j p hlt hp
  · have : j = k := by omega
    subst this
    rw [hx] at hp
    rw [← Option.some.inj hp]; exact hq
theorem IdsTo.all {xd : Bool} {xi : List Int} {k : Nat} (h : IdsTo xd xi k) (hk : xi.length = k) : (xi.all fun i => !xd && inB i 1 99) = true := by
  refine List.all_eq_true.2 fun q hq => ?_
  obtain ⟨j, hj⟩ := List.mem_iff_getElem?.1 hq
  exact h j q (by rw [← hk]; exact lt_of_get hj) hj
/-- the first k items of a list are those of a tree -/
def ItsTo (l : List It) (k : Nat) : Prop := ∀ j x, j < k → l[j]? = some x → ItAt l j x
theorem ItsTo.succ {l : List It} {k : Nat} {x : It} (h : ItsTo l k) (hx : l[k]? = some x) (hq : ItAt l k x) : ItsTo l (k + 1) := fun j p hj hp => by
  rcases Nat.lt_or_ge j k with hlt | hge
  · exact h j p hlt hp
  · have : j = k := by omega
    subst this
    rw [hx] at hp
    rw [← Option.some.inj hp]; exact hq
end Go.Sf

/-! The reference's functions on items and trees that make memory. -/
namespace Go.Sf
open Go Go.RowKit Go.Proofs
end Go.Sf

/-! The reference's copies of trees. -/
namespace Go.Sf
open Go Go.RowKit Go.Proofs
theorem take_succ_get {α : Type} {l : List α} {k : Nat} {x : α} (h : l[k]? = some x) : l.take (k + 1) = l.take k ++ [x] := by
  rw [List.take_add_one, h]; rfl
end Go.Sf

/-! The program's functions on paths. -/
namespace Go.Sf
open Go Go.RowKit Go.Proofs
end Go.Sf
