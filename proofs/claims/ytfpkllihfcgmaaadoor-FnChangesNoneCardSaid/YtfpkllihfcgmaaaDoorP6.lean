/- The library's Split at one slash is the plain cut. -/
import Derived.Test.YtfpkllihfcgmaaaDoorP3
import Derived.Lib.Split
import Derived.Lib.SplitLaws
namespace Go.Sf
open Go
theorem slash_first (l : List UInt8) : 47 ∉ l ∨ ∃ a b, l = a ++ 47 :: b ∧ 47 ∉ a := by
  induction l with
  | nil => left; simp
  | cons c cs ih =>
    by_cases hc : c = 47
    · subst hc; exact .inr ⟨[], cs, rfl, by simp⟩
    · rcases ih with h | ⟨a, b, rfl, h⟩
      · left; simp only [List.mem_cons, not_or]; exact ⟨fun e => hc e.symm, h⟩
      · exact .inr ⟨c :: a, b, rfl, by simp only [List.mem_cons, not_or]; exact ⟨fun e => hc e.symm, h⟩⟩
theorem index_none (l : List UInt8) (h : 47 ∉ l) : Lib.index l [47] = -1 := by
  induction l with
  | nil => rfl
  | cons c cs ih =>
    simp only [List.mem_cons, not_or] at h
    have e : (47 == c) = false := by rw [beq_eq_false_iff_ne]; exact h.1
    rw [Lib.index, ih h.2]
    simp [List.isPrefixOf, e]
theorem index_some (a b : List UInt8) (h : 47 ∉ a) : Lib.index (a ++ 47 :: b) [47] = a.length := by
  induction a with
  | nil => rw [List.nil_append, Lib.index]; simp [List.isPrefixOf]
  | cons c cs ih =>
    simp only [List.mem_cons, not_or] at h
    have e : (47 == c) = false := by rw [beq_eq_false_iff_ne]; exact h.1
    rw [List.cons_append, Lib.index, ih h.2]
    have e2 : ((cs.length : Int) == -1) = false := by rw [beq_eq_false_iff_ne]; omega
    simp [List.isPrefixOf, e, e2]
theorem split_cut : ∀ (n : Nat) (l : List UInt8), l.length ≤ n → Lib.splitK [47] 0 (Lib.count l [47]) l = cut l := by
  intro n
  induction n with
  | zero =>
    intro l hl
    rw [List.length_eq_zero_iff.1 (Nat.le_zero.1 hl)]
    rfl
  | succ n ih =>
    intro l hl
    rcases slash_first l with h | ⟨a, b, rfl, h⟩
    · rw [Lib.count_miss (index_none l h)]
      rw [cut, cutG_none _ h]; rfl
    · have hi := index_some a b h
      rw [Lib.count_hit (by simp) hi]
      have hm : ¬ (Lib.index (a ++ 47 :: b) [47] == -1) = true := fun e => by have := beq_iff_eq.1 e; omega
      rw [Nat.add_comm, Lib.splitK, if_neg hm, hi]
      have hdrop : (a ++ 47 :: b).drop (a.length + ([47] : List UInt8).length) = b := by simp
      have htake : (a ++ 47 :: b).take (((a.length : Int)).toNat + 0) = a := by simp
      rw [htake, Int.toNat_natCast, hdrop, ih b (by simp at hl; omega)]
      rw [cut, cut, cutG_app, cutG_none a h]; rfl
def slashB : ByteArray := ⟨#[47]⟩
theorem splitB_cut (s : ByteArray) : (Lib.splitB slashB 0 (Lib.countB s slashB) s).map bl = cut (bl s) := by
  have := Lib.splitB_data slashB 0 (Lib.countB s slashB) s
  rw [← split_cut _ (bl s) (Nat.le_refl _)]
  exact this
end Go.Sf
