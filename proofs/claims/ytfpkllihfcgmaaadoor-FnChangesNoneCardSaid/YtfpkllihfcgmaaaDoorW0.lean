/- The words that all walks of this claim use: worlds that only grow, cells that stay, what a slice reads as; and one rule for regions whose order is drawn. -/
import Derived.WalkKit
import Derived.LoopTactic
import Derived.WalkLawsBesides
import Derived.WalkSpells
import Derived.Lib.Hide
import Derived.Deep.Quiet
import Derived.Deep.Draws
import Derived.KernelRfl
import Derived.Deep.DeepMust
namespace Go.Sf
open Go Go.RowKit

/-- Every block that was there is as it was; new ones may have come. -/
def Ext (w w' : World) : Prop := Below w.heap.size w w'

theorem Ext.refl (w : World) : Ext w w := Below.refl _ _
theorem Ext.trans {a b c : World} (h : Ext a b) (k : Ext b c) : Ext a c :=
  Below.trans h (Below.mono k (Below.size h))
theorem Ext.alloc {a w : World} (h : Ext a w) (o : Obj) : Ext a (w.alloc o) := Below.alloc h (Below.size h) o
theorem Ext.drew {a w : World} (h : Ext a w) : Ext a w.drew := Below.drew h
theorem Ext.same {a w w' : World} (h : Ext a w) (ho : w'.os = w.os) (ht : w'.tape = w.tape) (hu : w'.output = w.output) (hh : w'.heap = w.heap) : Ext a w' :=
  ⟨ho.trans (Below.os h), ht.trans (Below.tape h), hu.trans (Below.output h), by rw [hh]; exact Below.size h, fun k hk => by rw [hh]; exact Below.block h k hk⟩
theorem Ext.drewN {a w : World} (h : Ext a w) (n : Nat) : Ext a (w.drewN n) := h.same rfl rfl rfl rfl
theorem Ext.setCell {a w : World} (h : Ext a w) {p : Addr} (hp : a.heap.size ≤ p.block) (u : Value) : Ext a (w.setCell p u) := Below.setCell h hp u
theorem Ext.size {a w : World} (h : Ext a w) : a.heap.size ≤ w.heap.size := Below.size h
theorem Ext.block {a w : World} (h : Ext a w) {k : Nat} (hk : k < a.heap.size) : w.heap[k]? = a.heap[k]? := Below.block h k hk
theorem Ext.cell {a w : World} (h : Ext a w) {p : Addr} {v : Value} (hc : a.cell? p = some v) : w.cell? p = some v :=
  (Below.cell h (World.block_lt_of_cell? _ _ hc)).trans hc
theorem ext_refl_true (w : World) : Ext w w = True := eq_true (Ext.refl w)
theorem ext_drew_eq (a w : World) : Ext a w.drew = Ext a w :=
  propext ⟨fun h => Ext.same h rfl rfl rfl rfl, Ext.drew⟩
theorem ext_drewN_eq (a w : World) (n : Nat) : Ext a (w.drewN n) = Ext a w :=
  propext ⟨fun h => Ext.same h rfl rfl rfl rfl, fun h => h.drewN n⟩
attribute [go_sem] ext_refl_true ext_drew_eq ext_drewN_eq Ext.alloc

/-- What a call leaves that returns v and only makes memory. -/
def Ret (v : Value) (w : World) (e : Ending) (w' : World) : Prop := e = .returned v ∧ Ext w w'
/-- The same where of the value a property is told. -/
def RetP (R : Value → World → Prop) (w : World) (e : Ending) (w' : World) : Prop := ∃ v, e = .returned v ∧ R v w' ∧ Ext w w'

theorem Ret.at_ {v : Value} {a w : World} (h : Ext a w) : ∀ e w', Ret v w e w' → Ret v a e w' := fun _ _ ⟨h1, h2⟩ => ⟨h1, h.trans h2⟩

/-! ### regions that draw their order -/
section
variable {P : Program} {ops : Array Oper} {Q : Exit → Act → World → Prop} {a : Act} {w : World} {rest : List Oper} {o : Oper} {QQ : Act → Prop} {u : Value}

/-- the walk of a region in the order of the text, as a word that no tactic looks into -/
@[irreducible] def WQ (P : Program) (ops : Array Oper) (C : World → Prop) (QQ : Act → Prop) (l : List Oper) (a : Act) : Prop := wpQuiet P ops C QQ l a
theorem WQ_of {C : World → Prop} {l : List Oper} (h : wpQuiet P ops C QQ l a) : WQ P ops C QQ l a := by unfold WQ; exact h
theorem of_WQ {C : World → Prop} {l : List Oper} (h : WQ P ops C QQ l a) : wpQuiet P ops C QQ l a := by unfold WQ at h; exact h
theorem wp_region_ext {id : Nat} {l : List Oper} (hm : P.follows .mixedOrders = true) (hB : Region.lexB .any l.toArray = true)
    (h : WQ P l.toArray (Ext w) (fun a' => ∀ w', Ext w w' → Q .normal a' w') l a) : (Code.region id l.toArray true).wp P Q a w :=
  wp_region_quiet (C := Ext w) hm hB (Ext.refl w).drew (by simpa using of_WQ h)
theorem q_nil (h : QQ a) : WQ P ops (Ext w) QQ [] a := WQ_of (wpQuiet_nil h)
theorem qg_plain (hg : Region.wanted o (yielded ops a.tmps) = true) (h : ∀ W, Ext w W → (execOp a.eval o).run P W = .ok (.value u) W)
    (k : WQ P ops (Ext w) QQ rest (a.put o.dst u)) : WQ P ops (Ext w) QQ (o :: rest) a := by
  refine WQ_of (wpQuiet_step fun K hK => ?_)
  rw [if_pos hg]
  exact ⟨u, fun W hW => by simp only [Oper.quietAt, h W hW, Oper.quietUpon, and_self], hK _ (of_WQ k)⟩
theorem qg_call {f : FuncId} {args : Array Value} (hg : Region.wanted o (yielded ops a.tmps) = true) (h : ∀ W, Ext w W → (execOp a.eval o).run P W = .ok (.enter f args) W)
    (hc : ∀ W, Ext w W → Calls P f args W (Ret u W)) (k : WQ P ops (Ext w) QQ rest (a.put o.dst u)) : WQ P ops (Ext w) QQ (o :: rest) a := by
  refine WQ_of (wpQuiet_step fun K hK => ?_)
  rw [if_pos hg]
  exact ⟨u, fun W hW => by simp only [Oper.quietAt, h W hW, Oper.quietUpon, true_and]; exact (hc W hW).mono fun e w' ⟨h1, h2⟩ => ⟨h1, hW.trans h2⟩, hK _ (of_WQ k)⟩
theorem qg_skip (hg : Region.wanted o (yielded ops a.tmps) = false)
    (k : WQ P ops (Ext w) QQ rest (a.put o.dst undef)) : WQ P ops (Ext w) QQ (o :: rest) a := by
  refine WQ_of (wpQuiet_step fun K hK => ?_)
  rw [hg, if_neg (by simp)]
  exact hK _ (of_WQ k)
theorem q_plain (hg : o.guard = none) (h : ∀ W, Ext w W → (execOp a.eval o).run P W = .ok (.value u) W)
    (k : WQ P ops (Ext w) QQ rest (a.put o.dst u)) : WQ P ops (Ext w) QQ (o :: rest) a :=
  qg_plain (by simp [Region.wanted, hg]) h k
theorem q_call {f : FuncId} {args : Array Value} (hg : o.guard = none) (h : ∀ W, Ext w W → (execOp a.eval o).run P W = .ok (.enter f args) W)
    (hc : ∀ W, Ext w W → Calls P f args W (Ret u W)) (k : WQ P ops (Ext w) QQ rest (a.put o.dst u)) : WQ P ops (Ext w) QQ (o :: rest) a :=
  qg_call (by simp [Region.wanted, hg]) h hc k
end
end Go.Sf
