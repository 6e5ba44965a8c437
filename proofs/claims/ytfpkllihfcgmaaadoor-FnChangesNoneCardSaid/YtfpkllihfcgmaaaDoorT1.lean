/- Lemmas on lists that are compared element by element. -/
import Derived.Test.YtfpkllihfcgmaaaDoorChecked
import Derived.Test.YtfpkllihfcgmaaaDoorW2
namespace Go.Sf
open Go Go.RowKit Go.Proofs
theorem ne_of_get {α : Type} {xs ys : List α} {k : Nat} {x y : α} (h1 : xs[k]? = some x) (h2 : ys[k]? = some y) (h : x ≠ y) : xs ≠ ys := by
  rintro rfl; rw [h1] at h2; exact h (Option.some.inj h2)
theorem eq_of_get {α : Type} {xs ys : List α} {n : Nat} (h1 : xs.length = n) (h2 : ys.length = n) (h : ∀ j, j < n → xs[j]? = ys[j]?) : xs = ys := by
  refine List.ext_getElem? fun j => ?_
  rcases Nat.lt_or_ge j n with hj | hj
  · exact h j hj
  · rw [List.getElem?_eq_none (by omega), List.getElem?_eq_none (by omega)]
/-- equality as a bool that no tactic looks into -/
def eqb {α : Type} [DecidableEq α] (x y : α) : Bool := decide (x = y)
theorem eqb_iff {α : Type} [DecidableEq α] {x y : α} : eqb x y = true ↔ x = y := by unfold eqb; simp
theorem eqb_true {α : Type} [DecidableEq α] {x y : α} : eqb x y = true ↔ x = y := eqb_iff
theorem eqb_false {α : Type} [DecidableEq α] {x y : α} : eqb x y = false ↔ x ≠ y := by unfold eqb; simp
theorem ret_eqb {α : Type} [DecidableEq α] {x y : α} {b : Bool} (h : x = y ↔ b = true) : Ending.returned (.bool b) = .returned (.bool (eqb x y)) := by
  have : eqb x y = b := by rw [Bool.eq_iff_iff, eqb_iff]; exact h
  rw [this]
theorem bytes_inj {a b : ByteArray} : a.toList = b.toList ↔ a = b := by
  constructor
  · intro h; rw [ByteArray.toList_eq, ByteArray.toList_eq] at h; cases a; cases b; simp at h; rw [h]
  · rintro rfl; rfl
theorem bytes_ne_iff {a b : ByteArray} : (a.toList == b.toList) = decide (a = b) := by
  rw [Bool.eq_iff_iff]
  simp only [beq_iff_eq, decide_eq_true_iff, bytes_inj]
/-- of two lists the first k elements are alike -/
def Alike {α : Type} (xs ys : List α) (k : Nat) : Prop := ∀ j, j < k → xs[j]? = ys[j]?
theorem Alike.zero {α : Type} (xs ys : List α) : Alike xs ys 0 := fun j h => absurd h (by omega)
theorem Alike.succ {α : Type} {xs ys : List α} {k : Nat} {x : α} (h : Alike xs ys k) (h1 : xs[k]? = some x) (h2 : ys[k]? = some x) : Alike xs ys (k + 1) := fun j hj => by
  rcases Nat.lt_or_ge j k with hlt | hge
  · exact h j hlt
  · have : j = k := by omega
    rw [this, h1, h2]

end Go.Sf
