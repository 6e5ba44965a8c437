/- The search for a name in a directory. -/
import Derived.Test.YtphgnbjikgglmaaGD
import Derived.Test.YtphgnbjikgglmaaGB
import Derived.IntWalk
import Derived.Test.YtphgnbjikgglmaaGA
import Derived.Laws.AppendOwn
import Derived.Test.YtphgnbjikgglmaaGC
import Derived.Test.YtphgnbjikgglmaaShelf
import Derived.Maps.AppendAt
set_option linter.all false
/-! The search for a name in a directory. -/
namespace Go.Sf
open Go Go.RowKit Go.Proofs
end Go.Sf

/-! The binary search for a name among the nodes of a directory. -/
namespace Go.Sf
open Go Go.RowKit Go.Proofs
end Go.Sf

/-! Trees of nodes in memory: which items they bear. -/
namespace Go.Sf
open Go Go.RowKit
abbrev Key := List (List UInt8)
section
variable {B : Nat} {w w' : World} {l : List It} {adr : Key → Nat} {kv : Key → Value}
end
section
variable {B : Nat} {w w' : World} {l : List It} {adr : Key → Nat} {kv : Key → Value}
theorem OwnS.at_ {α : Type} {base t sz : Nat} {E : World → Array Value → Nat → α → Prop} {v : Value} {l : List α} (h : OwnS base t sz E w v l) (hok : ElOk t sz E) {k : Nat} {x : α} (hx : l[k]? = some x) :
    ∃ g c cs, v = .slice (some ⟨g, 0, none⟩) l.length c ∧ base ≤ g ∧ Blk w g t cs ∧ E w cs (k * sz) x := by
  obtain ⟨xs, ⟨h1, h2⟩, h3⟩ := h
  rcases h2 with ⟨rfl, hn⟩ | ⟨g, cap, cur, rfl, hg, hh, hnc, hcm, hcs, htk⟩
  · have : l = [] := List.length_eq_zero_iff.1 hn
    subst this; simp at hx
  · refine ⟨g, cap, cur, rfl, hg, hh, hok.loc _ _ _ _ _ _ (fun j hj => ?_) (h3 k x hx)⟩
    have hk := lt_of_get hx
    have hlt : k * sz + j < l.length * sz := by
      have : (k + 1) * sz ≤ l.length * sz := Nat.mul_le_mul_right _ hk
      rw [Nat.add_mul, Nat.one_mul] at this
      omega
    rw [← Array.getElem?_toList, ← List.getElem?_take_of_lt hlt, htk, List.getElem?_toArray]
end
end Go.Sf

/-! A tree of nodes gets one node more. -/
namespace Go.Sf
open Go Go.RowKit
theorem OwnS.frame {α : Type} {base : Nat} {t : TypeId} {sz : Nat} {E : World → Array Value → Nat → α → Prop} {w w' : World} {v : Value} {l : List α} (h : OwnS base t sz E w v l)
    (hb : ∀ g, v.ownBlock = some g → w'.heap[g]? = w.heap[g]?) (hE : ∀ cs p x, E w cs p x → E w' cs p x) : OwnS base t sz E w' v l := by
  obtain ⟨xs, ⟨h1, h1'⟩, h2⟩ := h
  refine ⟨xs, ⟨h1, ?_⟩, fun k x hx => hE _ _ _ (h2 k x hx)⟩
  rcases h1' with h | ⟨g, cap, cur, hv, hg, hh, r⟩
  · exact .inl h
  · exact .inr ⟨g, cap, cur, hv, hg, (hb g (by rw [hv]; rfl)).trans hh, r⟩
/-- the block of a row of one's own, if it has one -/
theorem OwnS.block {α : Type} {base : Nat} {t : TypeId} {sz : Nat} {E : World → Array Value → Nat → α → Prop} {w : World} {v : Value} {l : List α} (h : OwnS base t sz E w v l) {g : Nat} (hg : v.ownBlock = some g) : base ≤ g ∧ ∃ cs, Blk w g t cs := by
  obtain ⟨xs, ⟨h1, h1'⟩, h2⟩ := h
  rcases h1' with ⟨rfl, -⟩ | ⟨g', cap, cur, rfl, hg', hh, r⟩
  · cases hg
  · simp only [Value.ownBlock, Option.some.injEq] at hg
    subst hg
    exact ⟨hg', cur, hh⟩
end Go.Sf

/-! Changes as interface values; slices from the second element on. -/
namespace Go.Sf
open Go Go.RowKit Go.Proofs
end Go.Sf

/-! The program's functions on paths that cut them. -/
namespace Go.Sf
open Go Go.RowKit Go.Proofs
def partsL (s : ByteArray) : List (List UInt8) := if pathOk s = true then cut (bl s) else []
/-- the parts as a slice of strings -/
def PartsV (B : Nat) (s : ByteArray) (v : Value) (w : World) : Prop := ∃ ps : List ByteArray, ps.map bl = partsL s ∧ Strs B w v ps
theorem partsL_bad {s : ByteArray} (h : pathOk s = false) : partsL s = [] := by simp [partsL, h]
theorem PartsV.none_ {B : Nat} {s : ByteArray} {w : World} (h : pathOk s = false) : PartsV B s (.slice none 0 0) w := ⟨[], (partsL_bad h).symm, SlOf.nil _ _ _ _ _⟩
end Go.Sf

/-! The way from a node down to another one. -/
namespace Go.Sf
open Go Go.RowKit Go.Proofs
section
variable {B : Nat} {w : World} {l : List It} {adr : Key → Nat} {kv : Key → Value}
theorem ret_v {a b : Value} (h : a = b) : Ending.returned a = .returned b := by rw [h]
end
end Go.Sf

/-! The directory that a path is in; the node with a path. -/
namespace Go.Sf
open Go Go.RowKit Go.Proofs
theorem SlIn.take {α : Type} {B : Nat} {t : TypeId} {sz : Nat} {E : World → Array Value → Nat → α → Prop} {w : World} {A : Option Addr} {c : Nat} {l : List α} (h : SlIn B t sz E w A c l) (j : Nat) : SlIn B t sz E w A c (l.take j) := by
  obtain ⟨h1, h2, h3, h4⟩ := h
  have := List.length_take_le j l
  have := List.length_take_le' j l
  exact ⟨by omega, h2, by omega, fun k x hx => h4 k x (by rw [List.getElem?_take] at hx; split at hx <;> first | exact hx | cases hx)⟩
/-- a directory: the root, or an item that is one -/
def isDir (l : List It) (k : Key) : Prop := k = [] ∨ ∃ z, z ∈ l ∧ key z = k ∧ z.dir = true
theorem isDir.key {l : List It} {k : Key} (h : isDir l k) : isKey l k := h.imp_right fun ⟨z, h1, h2, _⟩ => ⟨z, h1, h2⟩
section
variable {B : Nat} {w : World} {l : List It} {adr : Key → Nat} {kv : Key → Value}
end
end Go.Sf

/-! slices.Insert behind the last node. -/
namespace Go.Sf
open Go Go.RowKit Go.Proofs
end Go.Sf
