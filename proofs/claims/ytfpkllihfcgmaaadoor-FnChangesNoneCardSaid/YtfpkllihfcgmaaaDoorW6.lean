/- The append laws for the walk that branches over orders (goals of single operations). -/
import Derived.Test.YtfpkllihfcgmaaaDoorW4
namespace Go.Sf
open Go Go.RowKit
section
variable {P : Program} {ops : Array Oper} {o : Oper} {a : Act} {w : World} {K : Act → World → Prop} {Q : Exit → Act → World → Prop}
def Tight (K : Act → World → Prop) (Q : Exit → Act → World → Prop) : Exit → Act → World → Prop := Exit.then K (fun e a w => e ≠ .outgrown ∧ Q e a w)
theorem tight_not (K : Act → World → Prop) (Q : Exit → Act → World → Prop) : ¬ LetsOut (Tight K Q) := fun ⟨_, _, h⟩ => h.1 rfl
theorem op_of_list (h : wpList P ops (Tight K Q) [o] a w) : if Region.wanted o (yielded ops a.tmps) = true then Oper.wp P o a w K Q else K (a.put o.dst undef) w := by
  unfold wpList at h
  split at h
  · rename_i hw
    rw [if_pos hw]
    rcases h with h | h
    · unfold Oper.wp at *
      generalize (execOp a.eval o).run P w = r at *
      cases r with
      | ok n w' =>
        cases n <;> simp only [Oper.upon] at h ⊢ <;>
          first
            | exact h
            | exact Calls.mono h (fun e w'' he => by cases e <;> first | exact he | exact he.2 | exact absurd he (tight_not K Q))
            | exact Rows.mono h (fun _ _ he => he)
      | halt x w' => cases x <;> simp only [Oper.upon] at h ⊢ <;> first | exact h | exact h.2
    · exact absurd h.2 (tight_not K Q)
  · rename_i hw
    rw [if_neg hw]
    exact h
end
theorem two_E {α : Type} {sz : Nat} {E : World → Array Value → Nat → α → Prop} {W : World} {cs : Array Value} {y0 y1 : α} (h0 : E W cs 0 y0) (h1 : E W cs sz y1) : ∀ k y, [y0, y1][k]? = some y → E W cs (k * sz) y := by
  intro k y hk
  match k with
  | 0 => simp at hk; subst hk; simpa using h0
  | 1 => simp at hk; subst hk; simpa using h1
  | k + 2 => simp at hk
end Go.Sf
