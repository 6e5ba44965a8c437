/- The plain changes between two trees. -/
import Derived.Test.YtfpkllihfcgmaaaDoorP1
namespace Go.Sf
def chg : List It → List It → List Ch
  | [], [] => []
  | a :: az, [] => ⟨2, a⟩ :: chg az []
  | [], b :: bz => ⟨1, b⟩ :: chg [] bz
  | a :: az, b :: bz =>
    if blt a.path b.path = true then ⟨2, a⟩ :: chg az (b :: bz)
    else if blt b.path a.path = true then ⟨1, b⟩ :: chg (a :: az) bz
    else if a.dir = b.dir then (if eqb a b = true then chg az bz else ⟨3, b⟩ :: chg az bz)
    else ⟨2, a⟩ :: ⟨1, b⟩ :: chg az bz
  termination_by a b => a.length + b.length
noncomputable def chgOf (a b : List It) : Option (List Ch) := if treeOk a = true ∧ treeOk b = true then some (chg a b) else none
theorem chg_nil : chg [] [] = [] := by unfold chg; rfl
theorem chg_left (a : It) (az : List It) : chg (a :: az) [] = ⟨2, a⟩ :: chg az [] := by rw [chg]
theorem chg_right (b : It) (bz : List It) : chg [] (b :: bz) = ⟨1, b⟩ :: chg [] bz := by rw [chg]
theorem chg_lt {a b : It} (az bz : List It) (h : blt a.path b.path = true) : chg (a :: az) (b :: bz) = ⟨2, a⟩ :: chg az (b :: bz) := by
  rw [chg, if_pos h]
theorem chg_gt {a b : It} (az bz : List It) (h : blt a.path b.path = false) (h2 : blt b.path a.path = true) : chg (a :: az) (b :: bz) = ⟨1, b⟩ :: chg (a :: az) bz := by
  rw [chg, if_neg (by simp [h]), if_pos h2]
theorem chg_two {a b : It} (az bz : List It) (h : blt a.path b.path = false) (h2 : blt b.path a.path = false) (h3 : ¬ a.dir = b.dir) : chg (a :: az) (b :: bz) = ⟨2, a⟩ :: ⟨1, b⟩ :: chg az bz := by
  rw [chg, if_neg (by simp [h]), if_neg (by simp [h2]), if_neg h3]
theorem chg_same {a b : It} (az bz : List It) (h : blt a.path b.path = false) (h2 : blt b.path a.path = false) (h3 : a.dir = b.dir) (h4 : eqb a b = true) : chg (a :: az) (b :: bz) = chg az bz := by
  rw [chg, if_neg (by simp [h]), if_neg (by simp [h2]), if_pos h3, if_pos h4]
theorem chg_other {a b : It} (az bz : List It) (h : blt a.path b.path = false) (h2 : blt b.path a.path = false) (h3 : a.dir = b.dir) (h4 : eqb a b = false) : chg (a :: az) (b :: bz) = ⟨3, b⟩ :: chg az bz := by
  rw [chg, if_neg (by simp [h]), if_neg (by simp [h2]), if_pos h3, if_neg (by simp [h4])]
end Go.Sf
