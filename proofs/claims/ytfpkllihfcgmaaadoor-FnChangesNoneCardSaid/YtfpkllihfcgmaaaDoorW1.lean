/- What the values of this program read as in memory: slices of ints, of strings, of items; and that they go on reading so while memory only grows. -/
import Derived.Test.YtfpkllihfcgmaaaDoorW0
namespace Go.Sf
open Go Go.RowKit

/-- no list that is read here is longer, nor a string -/
def lim : Nat := 4194304
/-- Block b is just the cells cs, of elements of type t, none of them frozen. -/
def Blk (w : World) (b : Nat) (t : TypeId) (cs : Array Value) : Prop := w.heap[b]? = some (.cells cs t (0, 0))
/-- Blocks from B on that were there are as they were. -/
def Keeps (B : Nat) (w w' : World) : Prop := ∀ b, B ≤ b → b < w.heap.size → w'.heap[b]? = w.heap[b]?
theorem Ext.keeps {w w' : World} (h : Ext w w') (B : Nat) : Keeps B w w' := fun _ _ hb => h.block hb

section
variable {w w' : World} {b : Nat} {t : TypeId} {cs : Array Value}
theorem Blk.lt (h : Blk w b t cs) : b < w.heap.size := by
  rcases Nat.lt_or_ge b w.heap.size with hlt | hge
  · exact hlt
  · unfold Blk at h; rw [Array.getElem?_eq_none hge] at h; cases h
theorem Blk.keep {B : Nat} (h : Blk w b t cs) (hB : B ≤ b) (hk : Keeps B w w') : Blk w' b t cs := (hk b hB h.lt).trans h
theorem Blk.ext (h : Blk w b t cs) (e : Ext w w') : Blk w' b t cs := (e.block h.lt).trans h
theorem Blk.cell (h : Blk w b t cs) (i : Nat) : w.cell? ⟨b, i, none⟩ = cs[i]? := by
  unfold Blk at h; simp [World.cell?, h]
theorem Blk.frozen (h : Blk w b t cs) (i : Nat) : w.frozen? ⟨b, i, none⟩ = false := by
  unfold Blk at h
  simp [World.frozen?, h]
theorem Blk.new (w : World) (t : TypeId) (cs : Array Value) : Blk (w.alloc (.cells cs t)) w.heap.size t cs := by
  show (w.heap.push _)[w.heap.size]? = _; simp
theorem Blk.set_ (h : Blk w b t cs) (i : Nat) (u : Value) : Blk (w.setCell ⟨b, i, none⟩ u) b t (cs.setIfInBounds i u) := by
  unfold Blk at h ⊢
  simp [World.setCell, Array.getElem?_modify, h]
theorem Blk.far (h : Blk w b t cs) {p : Addr} (hp : b ≠ p.block) (u : Value) : Blk (w.setCell p u) b t cs := (Below.heap_setCell w p u b hp).trans h
theorem Blk.alloc (h : Blk w b t cs) (o : Obj) : Blk (w.alloc o) b t cs := (Below.heap_alloc w o b h.lt).trans h
theorem Blk.ne_ {g' : Nat} {t' : TypeId} {cs' : Array Value} (h : Blk w b t cs) (h' : Blk w g' t' cs') (hne : t ≠ t') : b ≠ g' := by
  rintro rfl
  unfold Blk at h h'
  rw [h] at h'
  injection h' with h'
  injection h' with _ ht
  exact hne ht
/-- a cell of such a block, in whatever world that came of this one -/
theorem Blk.at_ (h : Blk w b t cs) {i : Nat} {u : Value} (hu : cs[i]? = some u) : ∀ W, Ext w W → W.cell? ⟨b, i, none⟩ = some u :=
  fun W e => by rw [(h.ext e).cell, hu]
end

/-- The slice at A, of capacity c, has just the elements l: they lie in one block from B on, sz cells each. -/
def SlIn {α : Type} (B : Nat) (t : TypeId) (sz : Nat) (E : World → Array Value → Nat → α → Prop) (w : World) (A : Option Addr) (c : Nat) (l : List α) : Prop :=
  l.length ≤ c ∧ (c ≤ maxLen ∧ (A = none → c = 0)) ∧ l.length ≤ lim ∧ ∀ k x, l[k]? = some x → ∃ b o cs, A = some ⟨b, o, none⟩ ∧ B ≤ b ∧ Blk w b t cs ∧ E w cs (o + k * sz) x
def SlOf {α : Type} (B : Nat) (t : TypeId) (sz : Nat) (E : World → Array Value → Nat → α → Prop) (w : World) (v : Value) (l : List α) : Prop :=
  ∃ A c, v = .slice A l.length c ∧ SlIn B t sz E w A c l

section
variable {α : Type} {B B' : Nat} {t : TypeId} {sz : Nat} {E E' : World → Array Value → Nat → α → Prop} {w w' : World} {v : Value} {l : List α} {A : Option Addr} {c : Nat}
theorem SlIn.mono (h : SlIn B t sz E w A c l) (hB : B' ≤ B) (hk : Keeps B w w') (hE : ∀ cs p x, E w cs p x → E' w' cs p x) : SlIn B' t sz E' w' A c l :=
  ⟨h.1, h.2.1, h.2.2.1, fun k x hx => let ⟨b, o, cs, h1, h2, h3, h4⟩ := h.2.2.2 k x hx; ⟨b, o, cs, h1, Nat.le_trans hB h2, h3.keep h2 hk, hE _ _ _ h4⟩⟩
theorem SlOf.mono (h : SlOf B t sz E w v l) (hB : B' ≤ B) (hk : Keeps B w w') (hE : ∀ cs p x, E w cs p x → E' w' cs p x) : SlOf B' t sz E' w' v l :=
  let ⟨A, c, hv, hi⟩ := h; ⟨A, c, hv, hi.mono hB hk hE⟩
theorem SlOf.len (h : SlOf B t sz E w v l) : l.length ≤ lim := let ⟨_, _, _, hi⟩ := h; hi.2.2.1
theorem SlOf.one (h : SlOf B t sz E w v l) : v.oneCell' = true := by
  obtain ⟨A, c, rfl, -⟩ := h; rfl
theorem SlOf.nil (B : Nat) (t : TypeId) (sz : Nat) (E : World → Array Value → Nat → α → Prop) (w : World) : SlOf B t sz E w (.slice none 0 0) [] :=
  ⟨none, 0, rfl, Nat.le_refl _, ⟨Nat.zero_le _, fun _ => rfl⟩, Nat.zero_le _, fun k x h => by simp at h⟩
theorem SlOf.empty (B : Nat) (t : TypeId) (sz : Nat) (E : World → Array Value → Nat → α → Prop) (w : World) (A : Option Addr) (c : Nat) (hc : c ≤ maxLen) (h0 : A = none → c = 0) : SlOf B t sz E w (.slice A 0 c) [] :=
  ⟨A, c, rfl, Nat.zero_le _, ⟨hc, h0⟩, Nat.zero_le _, fun k x h => by simp at h⟩
/-- A row of the call's own reads as a list, where its cells do. -/
theorem SlOf.of_own {base : Nat} {xs : List Value} (h : w.ownsRow base t sz v l.length xs) (hB : B ≤ base) (hl : l.length ≤ lim)
    (hE : ∀ k x cs, l[k]? = some x → (∀ j, j < sz → cs[k * sz + j]? = xs[k * sz + j]?) → E w cs (k * sz) x) : SlOf B t sz E w v l := by
  obtain ⟨h1, h2⟩ := h
  rcases h2 with ⟨rfl, hn⟩ | ⟨g, cap, cur, rfl, hg, hh, hnc, hcm, hcs, htk⟩
  · have : l = [] := List.length_eq_zero_iff.1 hn
    subst this
    exact SlOf.nil ..
  · refine ⟨_, _, rfl, hnc, ⟨hcm, fun h => by cases h⟩, hl, fun k x hx => ⟨g, 0, cur, rfl, Nat.le_trans hB hg, hh, ?_⟩⟩
    rw [Nat.zero_add]
    refine hE k x cur hx fun j hj => ?_
    have hk : k < l.length := by
      rcases Nat.lt_or_ge k l.length with hlt | hge
      · exact hlt
      · rw [List.getElem?_eq_none hge] at hx; cases hx
    have hlt : k * sz + j < l.length * sz := by
      have : (k + 1) * sz ≤ l.length * sz := Nat.mul_le_mul_right _ hk
      rw [Nat.add_mul, Nat.one_mul] at this
      omega
    rw [← htk, List.getElem?_take_of_lt hlt, Array.getElem?_toList]
end

/-- int64's range -/
def inI (x : Int) : Prop := -9223372036854775808 ≤ x ∧ x ≤ 9223372036854775807
def EInt (_ : World) (cs : Array Value) (p : Nat) (x : Int) : Prop := cs[p]? = some (.int .i64 x) ∧ inI x
def EStr (_ : World) (cs : Array Value) (p : Nat) (s : ByteArray) : Prop := cs[p]? = some (.string s) ∧ s.size < lim
def Ints (B : Nat) (w : World) (v : Value) (xs : List Int) : Prop := SlOf B 3 1 EInt w v xs
def Strs (B : Nat) (w : World) (v : Value) (xs : List ByteArray) : Prop := SlOf B 9 1 EStr w v xs
section
variable {B B' : Nat} {w w' : World} {v : Value}
theorem Ints.keep {xs : List Int} (h : Ints B w v xs) (hB : B' ≤ B) (hk : Keeps B w w') : Ints B' w' v xs := h.mono hB hk fun _ _ _ e => e
theorem Ints.ext {xs : List Int} (h : Ints B w v xs) (e : Ext w w') : Ints B w' v xs := h.keep (Nat.le_refl _) (e.keeps _)
theorem Strs.keep {xs : List ByteArray} (h : Strs B w v xs) (hB : B' ≤ B) (hk : Keeps B w w') : Strs B' w' v xs := h.mono hB hk fun _ _ _ e => e
theorem Strs.ext {xs : List ByteArray} (h : Strs B w v xs) (e : Ext w w') : Strs B w' v xs := h.keep (Nat.le_refl _) (e.keeps _)

theorem Ints.one {xs : List Int} (h : Ints B w v xs) : v.oneCell' = true := SlOf.one h
theorem Strs.one {xs : List ByteArray} (h : Strs B w v xs) : v.oneCell' = true := SlOf.one h
/-- one element, in whatever world that came of this one -/
theorem Ints.at_ {A : Option Addr} {c : Nat} {l : List Int} (h : SlIn B 3 1 EInt w A c l) {k : Nat} {x : Int} (hx : l[k]? = some x) :
    ∃ b o, A = some ⟨b, o, none⟩ ∧ B ≤ b ∧ b < w.heap.size ∧ inI x ∧ ∀ W, Ext w W → W.cell? ⟨b, o + k, none⟩ = some (.int .i64 x) := by
  obtain ⟨b, o, cs, rfl, hb, hB, he⟩ := h.2.2.2 k x hx
  rw [Nat.mul_one] at he
  exact ⟨b, o, rfl, hb, hB.lt, he.2, hB.at_ he.1⟩
theorem Strs.at_ {A : Option Addr} {c : Nat} {l : List ByteArray} (h : SlIn B 9 1 EStr w A c l) {k : Nat} {x : ByteArray} (hx : l[k]? = some x) :
    ∃ b o, A = some ⟨b, o, none⟩ ∧ B ≤ b ∧ b < w.heap.size ∧ x.size < lim ∧ ∀ W, Ext w W → W.cell? ⟨b, o + k, none⟩ = some (.string x) := by
  obtain ⟨b, o, cs, rfl, hb, hB, he⟩ := h.2.2.2 k x hx
  rw [Nat.mul_one] at he
  exact ⟨b, o, rfl, hb, hB.lt, he.2, hB.at_ he.1⟩
end
theorem get_of_lt {α : Type} {l : List α} {k : Nat} (h : k < l.length) : ∃ x, l[k]? = some x := ⟨l[k], by simp [h]⟩
end Go.Sf
