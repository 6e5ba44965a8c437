/- slices.Clone of ints. -/
import Derived.Test.YtphgnbjikgglmaaGD
import Derived.Test.YtphgnbjikgglmaaShelf
import Derived.Test.YtphgnbjikgglmaaGE
import Derived.Test.YtphgnbjikgglmaaGA
import Derived.Test.YtphgnbjikgglmaaGB
import Derived.Test.YtphgnbjikgglmaaGC
set_option linter.all false
/-! slices.Clone of ints. -/
namespace Go.Sf
open Go Go.RowKit Go.Proofs
theorem Clone_int_c {B : Nat} {u : Value} {xs : List Int} (w : World) (h : Ints B w u xs) : Calls TryG.prog 33 #[u] w (RetP (fun v w' => Ints w.heap.size w' v xs) w) := by
  have hlim := h.len
  obtain ⟨A, c, rfl, hA⟩ := h
  have own : ∀ (v' : Value) (w' : World), w'.ownsRow w.heap.size 3 1 v' xs.length (xs.map (Value.int .i64)) → Ints w.heap.size w' v' xs := fun v' w' ho =>
    SlOf.of_own ho (Nat.le_refl _) hlim fun k x cs hx hj => by
      have h0 := hj 0 (by omega)
      obtain ⟨b, o, cs', -, -, -, he⟩ := hA.2.2.2 k x hx
      refine ⟨?_, he.2⟩
      rw [Nat.add_zero, Nat.mul_one] at h0
      rw [Nat.mul_one, h0, List.getElem?_map, hx]; rfl
  cases A with
  | none =>
    have hx : xs = [] := by
      cases xs with
      | nil => rfl
      | cons y ys => obtain ⟨b, o, cs, e, -⟩ := hA.2.2.2 0 y rfl; cases e
    subst hx
    refine (TryG.slices_Clone_int_nil _ _ w).mono ?_
    rintro e w' ⟨rfl, rfl⟩
    exact ⟨_, rfl, SlOf.nil _ _ _ _ _, Ext.refl _⟩
  | some a =>
    by_cases hx : xs = []
    · subst hx
      refine (TryG.slices_Clone_int_zero a c w).mono ?_
      rintro e w' ⟨v', rfl, ho, -, hb⟩
      exact ⟨_, rfl, own v' w' ho, hb⟩
    · have hlen : 0 < xs.length := List.length_pos_iff.2 hx
      obtain ⟨b, o, cs, e, -, hb, -⟩ := hA.2.2.2 0 xs[0] (by simp [hlen])
      simp only [Option.some.injEq] at e
      subst e
      unfold lim at hlim
      refine (TryG.slices_Clone_int b o xs.length c xs w (Nat.le_refl _) (by omega) fun j hj => ?_).mono ?_
      · obtain ⟨b2, o2, cs2, e2, -, hb2, he2⟩ := hA.2.2.2 j xs[j] (by simp [hj])
        simp only [Option.some.injEq, Addr.mk.injEq, and_true] at e2
        obtain ⟨rfl, rfl⟩ := e2
        rw [hb2.cell]
        have := he2.1
        rw [Nat.mul_one] at this
        rw [this]; simp [List.getD_eq_getElem?_getD, hj]
      · rintro e w' ⟨v', rfl, ho, -, hb'⟩
        rw [List.take_length] at ho
        exact ⟨_, rfl, own v' w' ho, hb'⟩
end Go.Sf

/-! An item goes into the tree of nodes, behind all that are there. -/
namespace Go.Sf
open Go Go.RowKit Go.Proofs
theorem OwnS.grown_keepsT {α : Type} {B t sz : Nat} {E : World → Array Value → Nat → α → Prop} {W w' : World} {v : Value} {l : List α} (h : OwnS B t sz E W v l) (hg : W.grownBy w' v.ownBlock) : KeepsT t W w' :=
  let ⟨_, h1, _⟩ := h; Go.Sf.grown_keepsT h1 hg
theorem OwnS.grown_ext {α : Type} {t sz : Nat} {E : World → Array Value → Nat → α → Prop} {w0 W w' : World} {v : Value} {l : List α} (h : OwnS w0.heap.size t sz E W v l) (h0 : Ext w0 W) (hg : W.grownBy w' v.ownBlock) : Ext w0 w' :=
  let ⟨_, h1, _⟩ := h; Go.Sf.grown_ext h0 h1 hg
section
variable {w0 w : World} {l : List It} {adr : Key → Nat} {kv : Key → Value}
end
end Go.Sf

/-! Is an item valid by itself? -/
namespace Go.Sf
open Go Go.RowKit Go.Proofs
end Go.Sf

/-! The tree of nodes is opened: it is there just where the tree is valid. -/
namespace Go.Sf
open Go Go.RowKit Go.Proofs
end Go.Sf

/-! The items of a tree of nodes are listed. -/
namespace Go.Sf
open Go Go.RowKit Go.Proofs
section
variable {B : Nat} {l : List It} {adr : Key → Nat} {kv : Key → Value}
end
end Go.Sf

/-! The changes between two lists of items. -/
namespace Go.Sf
open Go Go.RowKit Go.Proofs
end Go.Sf
