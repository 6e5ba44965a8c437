/- A valid tree is a sorted list of items whose directories are there: said without the order. -/
import Derived.Test.YtphgnbjikgglmaaGB
set_option linter.all false
/-! A valid tree is a sorted list of items whose directories are there: said without the order. -/
namespace Go.Sf
def Srt (l : List It) : Prop := l.Pairwise fun x y => blt x.path y.path = true
theorem blt_irr (a : ByteArray) : blt a a = false := by rw [blt_eq]; exact lt8_irrefl _
theorem blt_asymm' {a b : ByteArray} (h : blt a b = true) : blt b a = false := by rw [blt_eq] at h ⊢; exact lt8_asymm h
theorem Srt.inj {l : List It} (h : Srt l) {x y : It} (hx : x ∈ l) (hy : y ∈ l) (e : x.path = y.path) : x = y := by
  obtain ⟨i, hi⟩ := List.mem_iff_getElem?.1 hx
  obtain ⟨j, hj⟩ := List.mem_iff_getElem?.1 hy
  unfold Srt at h
  rw [List.pairwise_iff_getElem] at h
  obtain ⟨hi1, hi2⟩ := List.getElem?_eq_some_iff.1 hi
  obtain ⟨hj1, hj2⟩ := List.getElem?_eq_some_iff.1 hj
  rcases Nat.lt_trichotomy i j with hlt | rfl | hlt
  · have := h i j hi1 hj1 hlt
    rw [hi2, hj2, e, blt_irr] at this; cases this
  · rw [hi] at hj; exact Option.some.inj hj
  · have := h j i hj1 hi1 hlt
    rw [hi2, hj2, e, blt_irr] at this; cases this
/-! ### an item is put -/
def Apart (l : List It) : Prop := l.Pairwise fun x y => x.path ≠ y.path
theorem Srt.apart {l : List It} (h : Srt l) : Apart l := List.Pairwise.imp (fun {x y} hxy e => by rw [e, blt_irr] at hxy; cases hxy) h
/-- sorted, equals in any order -/
def Weak (l : List It) : Prop := l.Pairwise fun x y => blt y.path x.path = false
end Go.Sf

/-! Paths within others, paths moved; trees moved and cloned. -/
namespace Go.Sf
def within (p d : ByteArray) : Bool := decide (bl d = [] ∨ p = d ∨ bl d ++ [47] <+: bl p)
/-- a path in one directory as it is in another one -/
def pmove (p f t : ByteArray) : Option ByteArray :=
  if pathOk p = true ∧ pathOk f = true ∧ pathOk t = true ∧ within p f = true then
    (if pathOk (t ++ p.extract f.size p.size) = true then some (t ++ p.extract f.size p.size) else none)
  else none
def mvItem (f t : ByteArray) (x : It) : Option It := (pmove x.path f t).map fun p => ⟨p, x.dir, x.ids⟩
/-- all copies, or nothing if one of them has no path -/
def copyAll (f t : ByteArray) : List It → Option (List It)
  | [] => some []
  | x :: r => if within x.path f = true then (mvItem f t x).bind fun y => (copyAll f t r).map fun ys => y :: ys else copyAll f t r
def insideOf (l : List It) (f : ByteArray) : List It := l.filter fun x => within x.path f
theorem copyAll_some {f t : ByteArray} : ∀ {l cs : List It}, copyAll f t l = some cs → cs.length = (insideOf l f).length ∧ (∀ x, x ∈ l → within x.path f = true → ∃ y, y ∈ cs ∧ mvItem f t x = some y) ∧ ∀ y, y ∈ cs → ∃ x, x ∈ l ∧ within x.path f = true ∧ mvItem f t x = some y := by
  intro l
  induction l with
  | nil => intro cs h; rw [copyAll] at h; cases h; exact ⟨rfl, fun x hx => by simp at hx, fun y hy => by simp at hy⟩
  | cons x r ih =>
    intro cs h
    rw [copyAll] at h
    split at h
    · next hw =>
      rw [Option.bind_eq_some_iff] at h
      obtain ⟨y, hy, h⟩ := h
      rw [Option.map_eq_some_iff] at h
      obtain ⟨ys, hys, rfl⟩ := h
      obtain ⟨h1, h2, h3⟩ := ih hys
      refine ⟨by rw [insideOf, List.filter_cons_of_pos (by simpa using hw), List.length_cons, List.length_cons, h1]; rfl, fun z hz hzw => ?_, fun z hz => ?_⟩
      · rcases List.mem_cons.1 hz with rfl | hz
        · exact ⟨y, by simp, hy⟩
        · obtain ⟨q, hq, e⟩ := h2 z hz hzw
          exact ⟨q, by simp [hq], e⟩
      · rcases List.mem_cons.1 hz with rfl | hz
        · exact ⟨x, by simp, hw, hy⟩
        · obtain ⟨q, hq, e⟩ := h3 z hz
          exact ⟨q, by simp [hq], e⟩
    · next hw =>
      obtain ⟨h1, h2, h3⟩ := ih h
      refine ⟨by rw [insideOf, List.filter_cons_of_neg (by simpa using hw), h1]; rfl, fun z hz hzw => ?_, fun z hz => ?_⟩
      · rcases List.mem_cons.1 hz with rfl | hz
        · exact absurd hzw hw
        · exact h2 z hz hzw
      · obtain ⟨q, hq, e⟩ := h3 z hz
        exact ⟨q, by simp [hq], e⟩
theorem Srt.weak {l : List It} (h : Srt l) : Weak l := List.Pairwise.imp (fun {_ _} h => blt_asymm' h) h
theorem Srt.filter {l : List It} (h : Srt l) (p : It → Bool) : Srt (l.filter p) := List.Pairwise.filter p h
/-- what a move leaves -/
structure Moved (l : List It) (f t : ByteArray) (o : List It) (keep : List It) : Prop where
  lok : treeOk l = true
  fok : pathOk f = true
  tok : pathOk t = true
  has : ∃ x, x ∈ l ∧ x.path = f
  out : within t f = false
  free : ∀ y, y ∈ l → y.path ≠ t
  ook : treeOk o = true
  cs : ∃ cs, copyAll f t l = some cs ∧ o.Perm (cs ++ keep)
end Go.Sf

/-! The laws of moved and cloned trees, in plain words. -/
namespace Go.Sf
section
variable {l o keep : List It} {f t : ByteArray} (M : Moved l f t o keep)
include M
theorem Moved.kept {x : It} (hx : x ∈ keep) : x ∈ o := by
  obtain ⟨cs, hc, hp⟩ := M.cs
  exact hp.symm.subset (by simp [hx])
theorem Moved.len : o.length = (insideOf l f).length + keep.length := by
  obtain ⟨cs, hc, hp⟩ := M.cs
  rw [hp.length_eq, List.length_append, (copyAll_some hc).1]
end
section
variable {l o : List It} {f t : ByteArray}
end
end Go.Sf

/-! Changes made in a tree, plain. -/
namespace Go.Sf
end Go.Sf
