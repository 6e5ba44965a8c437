/- Plain laws of paths, trees and changes. -/
import Derived.Test.YtphgnbjikgglmaaGA
import Derived.Lib.Split
import Derived.Lib.SplitLaws
set_option linter.all false
/-! The plain functions on bytes and paths. -/
namespace Go.Sf
def bl (s : ByteArray) : List UInt8 := s.data.toList
theorem bl_length (s : ByteArray) : (bl s).length = s.size := rfl
theorem bl_extract (s : ByteArray) (i j : Nat) : bl (s.extract i j) = ((bl s).take j).drop i := by
  show (s.extract i j).data.toList = _
  rw [ByteArray.data_extract, Array.toList_extract, List.extract_eq_take_drop]
  rw [List.drop_take]; rfl
/-- a small letter -/
def low (c : UInt8) : Bool := decide (97 ≤ c.toNat) && decide (c.toNat ≤ 122)
def wordOk (l : List UInt8) : Bool := l.all low && (decide (1 ≤ l.length) && decide (l.length ≤ 5))
/-- a text cut at its slashes, the piece that has begun being cur -/
def cutG : List UInt8 → List UInt8 → List (List UInt8)
  | cur, [] => [cur]
  | cur, c :: cs => if c = 47 then cur :: cutG [] cs else cutG (cur ++ [c]) cs
def cut (l : List UInt8) : List (List UInt8) := cutG [] l
def pathOkL (l : List UInt8) : Bool := (cut l).all wordOk && decide ((cut l).length ≤ 4)
def pathOk (s : ByteArray) : Bool := pathOkL (bl s)
/-- where the last slash is, the places beginning at k and the answer so far being acc -/
def lastG : List UInt8 → Nat → Int → Int
  | [], _, acc => acc
  | c :: cs, k, acc => lastG cs (k + 1) (if c = 47 then (k : Int) else acc)
def lastSlash (l : List UInt8) : Int := lastG l 0 (-1)
def parentB (s : ByteArray) : ByteArray := s.extract 0 (lastSlash (bl s)).toNat
/-- n lies in lo .. hi -/
def inB (n lo hi : Int) : Bool := decide (lo ≤ n) && decide (n ≤ hi)
theorem inB_iff {n lo hi : Int} : inB n lo hi = true ↔ lo ≤ n ∧ n ≤ hi := by simp [inB]

/-- the place of the first element that p holds of, the list's places beginning at k; -1 if there is none -/
def atG {α : Type} (p : α → Bool) : List α → Nat → Int
  | [], _ => -1
  | x :: xs, k => if p x then (k : Int) else atG p xs (k + 1)
theorem drop_cons {α : Type} {l : List α} {k : Nat} {x : α} (h : l[k]? = some x) : l.drop k = x :: l.drop (k + 1) := by
  have hl : k < l.length := by
    rcases Nat.lt_or_ge k l.length with hlt | hge
    · exact hlt
    · rw [List.getElem?_eq_none hge] at h; cases h
  rw [List.drop_eq_getElem_cons hl]
  rw [List.getElem?_eq_getElem hl] at h
  rw [Option.some.inj h]
theorem atG_find {α : Type} (p : α → Bool) (l : List α) : ∀ k, (l.find? p = none ∧ atG p l k = -1) ∨ (∃ i x, l[i]? = some x ∧ p x = true ∧ l.find? p = some x ∧ atG p l k = ((k + i : Nat) : Int) ∧ ∀ j y, j < i → l[j]? = some y → p y = false) := by
  induction l with
  | nil => intro k; left; simp [atG]
  | cons x xs ih =>
    intro k
    cases hp : p x with
    | true => right; exact ⟨0, x, by simp, hp, by simp [hp], by simp [atG, hp], fun j y h => absurd h (by omega)⟩
    | false =>
      rcases ih (k + 1) with ⟨h1, h2⟩ | ⟨i, y, h1, h2, h3, h4, h5⟩
      · left; exact ⟨by simp [hp, h1], by simp [atG, hp, h2]⟩
      · right
        refine ⟨i + 1, y, by simpa using h1, h2, by simp [hp, h3], by simp only [atG, hp]; rw [if_neg (by simp), h4]; omega, fun j z hj hz => ?_⟩
        cases j with
        | zero => simp at hz; subst hz; exact hp
        | succ j => exact h5 j z (by omega) (by simpa using hz)
end Go.Sf

/-! The plain functions on trees. -/
namespace Go.Sf
/-- byte by byte, a comes ahead of b -/
def blt (a b : ByteArray) : Bool := Op.bytesLess a.toList b.toList
def emptyB : ByteArray := ByteArray.empty
def pathIs (p : ByteArray) (x : It) : Bool := eqb x.path p
def findIt (l : List It) (p : ByteArray) : Option It := l.find? (pathIs p)
def dirAt (l : List It) (p : ByteArray) : Bool := match findIt l p with | some x => x.dir | none => false
def homeOk (l : List It) (p : ByteArray) : Bool := eqb (parentB p) emptyB || dirAt l (parentB p)
def idsOk (x : It) : Bool := x.ids.all fun i => !x.dir && inB i 1 99
def itemOk (x : It) : Bool := idsOk x && (pathOk x.path && decide (x.ids.length ≤ 4))
/-- what a valid tree's item at place k meets -/
def ItAt (l : List It) (k : Nat) (x : It) : Prop := itemOk x = true ∧ (∀ j y, k = j + 1 → l[j]? = some y → blt y.path x.path = true) ∧ homeOk l x.path = true
def TreeOk (l : List It) : Prop := l.length ≤ 12 ∧ ∀ k x, l[k]? = some x → ItAt l k x
open Classical in
noncomputable def treeOk (l : List It) : Bool := decide (TreeOk l)
end Go.Sf

/-! The plain changes between two trees. -/
namespace Go.Sf
end Go.Sf

/-! Plain facts on paths: cut and join, the order of bytes; items by the list of their parts. -/
namespace Go.Sf
open Go
/-- the order of bytes on lists -/
def lt8 (a b : List UInt8) : Bool := Op.bytesLess a b
theorem blt_eq (a b : ByteArray) : blt a b = lt8 (bl a) (bl b) := by unfold blt lt8 bl; rw [ByteArray.toList_eq, ByteArray.toList_eq]
theorem lt8_nil_right (a : List UInt8) : lt8 a [] = false := by cases a <;> rfl
theorem lt8_cons (a b : UInt8) (x y : List UInt8) : lt8 (a :: x) (b :: y) = (decide (a < b) || (a == b && lt8 x y)) := rfl
theorem lt8_irrefl (a : List UInt8) : lt8 a a = false := by
  induction a with
  | nil => rfl
  | cons c cs ih => rw [lt8_cons, ih]; simp
theorem lt8_trans : ∀ (a b c : List UInt8), lt8 a b = true → lt8 b c = true → lt8 a c = true := by
  intro a
  induction a with
  | nil =>
    intro b c h1 h2
    cases c with
    | nil => rw [lt8_nil_right] at h2; cases h2
    | cons => rfl
  | cons x xs ih =>
    intro b c h1 h2
    cases b with
    | nil => rw [lt8_nil_right] at h1; cases h1
    | cons y ys =>
      cases c with
      | nil => rw [lt8_nil_right] at h2; cases h2
      | cons z zs =>
        rw [lt8_cons] at h1 h2 ⊢
        simp only [Bool.or_eq_true, Bool.and_eq_true, decide_eq_true_eq, beq_iff_eq] at h1 h2 ⊢
        rcases h1 with h1 | ⟨rfl, h1⟩
        · rcases h2 with h2 | ⟨rfl, h2⟩
          · exact .inl (UInt8.lt_trans h1 h2)
          · exact .inl h1
        · rcases h2 with h2 | ⟨rfl, h2⟩
          · exact .inl h2
          · exact .inr ⟨rfl, ih _ _ h1 h2⟩
theorem lt8_asymm {a b : List UInt8} (h : lt8 a b = true) : lt8 b a = false := by
  cases h2 : lt8 b a with
  | false => rfl
  | true => have := lt8_trans _ _ _ h h2; rw [lt8_irrefl] at this; cases this
/-- an item's parts -/
def key (x : It) : List (List UInt8) := cut (bl x.path)
/-! ### the last slash -/
/-! ### what grows item by item -/
/-- x fits behind l -/
def Fits (l : List It) (x : It) : Prop := itemOk x = true ∧ (∀ y, y ∈ l → lt8 (bl y.path) (bl x.path) = true) ∧ ((key x).dropLast = [] ∨ ∃ z, z ∈ l ∧ key z = (key x).dropLast ∧ z.dir = true)
def Grow (l : List It) : Prop := ∀ k x, l[k]? = some x → Fits (l.take k) x
theorem Grow.nil : Grow [] := fun k x h => by simp at h
theorem Grow.take {l : List It} (h : Grow l) (n : Nat) : Grow (l.take n) := fun k x hx => by
  rw [List.getElem?_take] at hx
  split at hx
  · next hk =>
    have := h k x hx
    rwa [List.take_take, Nat.min_eq_left (by omega)]
  · cases hx
theorem Grow.snoc {l : List It} {x : It} (h : Grow l) (hx : Fits l x) : Grow (l ++ [x]) := fun k y hy => by
  rcases Nat.lt_or_ge k l.length with hlt | hge
  · rw [List.getElem?_append_left hlt] at hy
    rw [List.take_append_of_le_length (by omega)]
    exact h k y hy
  · rw [List.getElem?_append_right hge] at hy
    have : k - l.length = 0 := by
      rcases Nat.eq_zero_or_pos (k - l.length) with h | h
      · exact h
      · rw [List.getElem?_eq_none (by simp; omega)] at hy; cases hy
    rw [this] at hy
    simp at hy
    subst hy
    have : k = l.length := by omega
    subst this
    simpa using hx
theorem Grow.init {l : List It} {x : It} (h : Grow (l ++ [x])) : Grow l ∧ Fits l x := by
  refine ⟨by simpa using h.take l.length, ?_⟩
  have := h l.length x (by simp)
  simpa using this
theorem Grow.fits {l : List It} {x : It} (h : Grow l) (hx : x ∈ l) : itemOk x = true ∧ ((key x).dropLast = [] ∨ ∃ z, z ∈ l ∧ key z = (key x).dropLast ∧ z.dir = true) := by
  obtain ⟨k, hk⟩ := List.mem_iff_getElem?.1 hx
  obtain ⟨h1, -, h3⟩ := h k x hk
  exact ⟨h1, h3.imp_right fun ⟨z, hz, r⟩ => ⟨z, List.mem_of_mem_take hz, r⟩⟩
theorem Grow.lt {l : List It} (h : Grow l) {i j : Nat} {x y : It} (hx : l[i]? = some x) (hy : l[j]? = some y) (hij : i < j) : lt8 (bl x.path) (bl y.path) = true :=
  (h j y hy).2.1 x (List.mem_iff_getElem?.2 ⟨i, by rw [List.getElem?_take, if_pos hij]; exact hx⟩)
theorem Grow.inj {l : List It} (h : Grow l) {x y : It} (hx : x ∈ l) (hy : y ∈ l) (e : x.path = y.path) : x = y := by
  obtain ⟨i, hi⟩ := List.mem_iff_getElem?.1 hx
  obtain ⟨j, hj⟩ := List.mem_iff_getElem?.1 hy
  rcases Nat.lt_trichotomy i j with hl | rfl | hl
  · have := h.lt hi hj hl; rw [e, lt8_irrefl] at this; cases this
  · rw [hi] at hj; exact Option.some.inj hj
  · have := h.lt hj hi hl; rw [e, lt8_irrefl] at this; cases this
/-- the keys of a tree, the root's among them -/
def isKey (l : List It) (k : List (List UInt8)) : Prop := k = [] ∨ ∃ z, z ∈ l ∧ key z = k
end Go.Sf

/-! Plain facts on trees: a tree that grew item by item is listed in its own order; validity is growth. -/
namespace Go.Sf
open Go
end Go.Sf

/-! A tree is valid just where it grew item by item. -/
namespace Go.Sf
open Go
theorem findIt_some {l : List It} {p : ByteArray} {y : It} (h : findIt l p = some y) : y ∈ l ∧ y.path = p := by
  unfold findIt at h
  have h1 := List.mem_of_find?_eq_some h
  have h2 := List.find?_some h
  exact ⟨h1, eqb_iff.1 h2⟩
theorem findIt_none {l : List It} {p : ByteArray} (h : findIt l p = none) : ∀ y, y ∈ l → y.path ≠ p := by
  unfold findIt at h
  rw [List.find?_eq_none] at h
  intro y hy e
  exact h y hy (eqb_iff.2 e)
theorem Grow.find {l : List It} (h : Grow l) {y : It} (hy : y ∈ l) : findIt l y.path = some y := by
  cases hf : findIt l y.path with
  | none => exact absurd rfl (findIt_none hf y hy)
  | some z => have := findIt_some hf; rw [h.inj this.1 hy this.2]
end Go.Sf

/-! The library's Split at one slash is the plain cut. -/
namespace Go.Sf
open Go
end Go.Sf
