/- Changes as interface values; slices from the second element on. -/
import Derived.Test.YtfpkllihfcgmaaaDoorI0
import Derived.Test.YtfpkllihfcgmaaaDoorP2
import Derived.Test.YtfpkllihfcgmaaaDoorT6
import Derived.Test.YtfpkllihfcgmaaaDoorW9
namespace Go.Sf
open Go Go.RowKit Go.Proofs
/-- the type of a change's struct -/
def kindT (k : Int) : TypeId := if k = 1 then 83 else if k = 2 then 82 else 84
def chgV (k : Int) (x : It) (u : Value) : Value := .iface (kindT k) (.agg #[.string x.path, .bool x.dir, u])
def ECg (B : Nat) (w : World) (cs : Array Value) (p : Nat) (c : Ch) : Prop :=
  (c.kind = 1 ∨ c.kind = 2 ∨ c.kind = 3) ∧ c.item.path.size < lim ∧ ∃ u, cs[p]? = some (chgV c.kind c.item u) ∧ Ints B w u c.item.ids
theorem ECg_ok (B : Nat) : ElOk 57 1 (ECg B) := ⟨fun _ _ _ _ _ hk ⟨h1, h2, u, h3, h4⟩ => ⟨h1, h2, u, h3, h4.keepT hk (by decide)⟩, fun _ _ _ p p' _ hj ⟨h1, h2, u, h3, h4⟩ => ⟨h1, h2, u, by have := hj 0 (by omega); simp only [Nat.add_zero] at this; rw [this]; exact h3, h4⟩, fun _ _ _ c ⟨_, _, u, h3, _⟩ j hj => ⟨chgV c.kind c.item u, by
  have : j = 0 := by omega
  subst this; exact h3, rfl⟩⟩
theorem el_Cg : Elem Tryd.prog 53 57 1 :=
  elem_of (z := .nilIface) (b := 16) Tryd.underlying53 (by kernel_rfl) (by decide) rfl (by decide)
section
variable {α : Type} {B : Nat} {t : TypeId} {sz : Nat} {E : World → Array Value → Nat → α → Prop} {w w' : World} {A : Option Addr} {c : Nat}
theorem SlIn.tail {b o : Nat} {x : α} {l : List α} (h : SlIn B t sz E w (some ⟨b, o, none⟩) c (x :: l)) : SlIn B t sz E w (some ⟨b, o + sz, none⟩) (c - 1) l := by
  obtain ⟨h1, ⟨h2, -⟩, h3, h4⟩ := h
  simp only [List.length_cons] at h1 h3
  refine ⟨by omega, ⟨by omega, fun h => by cases h⟩, by omega, fun k y hy => ?_⟩
  obtain ⟨b', o', cs, e1, e2, e3, e4⟩ := h4 (k + 1) y (by simpa using hy)
  simp only [Option.some.injEq, Addr.mk.injEq, and_true] at e1
  obtain ⟨rfl, rfl⟩ := e1
  refine ⟨b, o + sz, cs, rfl, e2, e3, ?_⟩
  rw [Nat.add_mul, Nat.one_mul] at e4
  rw [show o + sz + k * sz = o + (k * sz + sz) by omega]
  exact e4
theorem SlIn.tail0 {A' : Option Addr} {x : α} {l : List α} (h : SlIn B t sz E w A c (x :: l)) (hc : c = 1) (hA : A' ≠ none) : SlIn B t sz E w A' (c - 1) l := by
  have : l = [] := by
    have := h.1
    rw [hc, List.length_cons] at this
    exact List.length_eq_zero_iff.1 (by omega)
  subst this
  exact ⟨Nat.zero_le _, ⟨by rw [hc]; exact Nat.zero_le _, fun h => absurd h hA⟩, Nat.zero_le _, fun k y hy => by simp at hy⟩
theorem SlIn.ext {l : List α} (h : SlIn B t sz E w A c l) (e : Ext w w') (hE : ∀ cs p x, E w cs p x → E w' cs p x) : SlIn B t sz E w' A c l := h.mono (Nat.le_refl _) (e.keeps _) hE
end
theorem Its.head {B : Nat} {w : World} {A : Option Addr} {c : Nat} {x : It} {l : List It} (h : SlIn B 35 3 (EIt B) w A c (x :: l)) :
    ∃ b o A2 c2, A = some ⟨b, o, none⟩ ∧ l.length + 1 ≤ c ∧ c ≤ 9223372036854775807 ∧ x.path.size < lim ∧ Ints B w (.slice A2 x.ids.length c2) x.ids ∧ x.ids.length ≤ lim ∧ (∀ W, Ext w W → W.cell? ⟨b, o, none⟩ = some (.string x.path)) ∧ (∀ W, Ext w W → W.cell? ⟨b, o + 1, none⟩ = some (.bool x.dir)) ∧ (∀ W, Ext w W → W.cell? ⟨b, o + 2, none⟩ = some (.slice A2 x.ids.length c2)) := by
  obtain ⟨b, o, u2, rfl, -, -, h1, ⟨A2, c2, rfl, hu⟩, h3, h4, h5⟩ := Its.at_ h (k := 0) (x := x) rfl
  simp only [Nat.zero_mul, Nat.add_zero] at h3 h4 h5
  exact ⟨b, o, A2, c2, rfl, by simpa using h.1, by have := h.2.1.1; unfold maxLen at this; omega, h1, ⟨_, _, rfl, hu⟩, hu.2.2.1, h3, h4, h5⟩
/-- how many elements a slice has -/
def lenOf : Value → Nat
  | .slice _ n _ => n
  | _ => 0
theorem its_nil {B : Nat} {w : World} : Its B w (.slice none 0 0) [] := SlOf.nil _ _ _ _ _
end Go.Sf
