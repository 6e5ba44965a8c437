/- A valid tree is a sorted list of items whose directories are there: said without the order. -/
import Derived.Test.YtpldhlpegpgmcaaDoorGB
/-! A valid tree is a sorted list of items whose directories are there: said without the order. -/
namespace Go.Sf
def Srt (l : List It) : Prop := l.Pairwise fun x y => blt x.path y.path = true
theorem blt_irr (a : ByteArray) : blt a a = false := by rw [blt_eq]; exact lt8_irrefl _
theorem blt_asymm' {a b : ByteArray} (h : blt a b = true) : blt b a = false := by rw [blt_eq] at h ⊢; exact lt8_asymm h
theorem Srt.inj {l : List It} (h : Srt l) {x y : It} (hx : x ∈ l) (hy : y ∈ l) (e : x.path = y.path) : x = y := by
  obtain ⟨i, hi⟩ := List.mem_iff_getElem?.1 hx
  obtain ⟨j, hj⟩ := List.mem_iff_getElem?.1 hy
  unfold Srt at h
  rw [List.pairwise_iff_getElem] at h
  obtain ⟨hi1, hi2⟩ := List.getElem?_eq_some_iff.1 hi
  obtain ⟨hj1, hj2⟩ := List.getElem?_eq_some_iff.1 hj
  rcases Nat.lt_trichotomy i j with hlt | rfl | hlt
  · have := h i j hi1 hj1 hlt
    rw [hi2, hj2, e, blt_irr] at this; cases this
  · rw [hi] at hj; exact Option.some.inj hj
  · have := h j i hj1 hi1 hlt
    rw [hi2, hj2, e, blt_irr] at this; cases this
/-! ### an item is put -/
def putIt (x : It) : List It → List It
  | [] => [x]
  | y :: r => if blt y.path x.path = true then y :: putIt x r else x :: (y :: r).filter fun z => !eqb z.path x.path
def Apart (l : List It) : Prop := l.Pairwise fun x y => x.path ≠ y.path
theorem Srt.apart {l : List It} (h : Srt l) : Apart l := List.Pairwise.imp (fun {x y} hxy e => by rw [e, blt_irr] at hxy; cases hxy) h
/-- sorted, equals in any order -/
def Weak (l : List It) : Prop := l.Pairwise fun x y => blt y.path x.path = false
end Go.Sf

/-! Paths within others, paths moved; trees moved and cloned. -/
namespace Go.Sf
def within (p d : ByteArray) : Bool := decide (bl d = [] ∨ p = d ∨ bl d ++ [47] <+: bl p)
theorem cut_ne (l : List UInt8) : cut l ≠ [] := cutG_ne _ _
theorem cut_app (a b : List UInt8) : cut (a ++ 47 :: b) = cut a ++ cut b := cutG_app a b []
theorem pathOk_words {p : ByteArray} (h : pathOk p = true) : (cut (bl p)).all wordOk = true ∧ (cut (bl p)).length ≤ 4 := by
  unfold pathOk pathOkL at h
  simpa using h
theorem pathOk_ne {p : ByteArray} (h : pathOk p = true) : bl p ≠ [] := fun e => by
  have := (pathOk_words h).1
  rw [e] at this
  exact absurd this (by decide)
theorem within_key {p d : ByteArray} (hd : pathOk d = true) : within p d = true ↔ cut (bl d) <+: cut (bl p) := by
  unfold within
  rw [decide_eq_true_eq]
  constructor
  · rintro (h | rfl | ⟨r, h⟩)
    · exact absurd h (pathOk_ne hd)
    · exact List.prefix_refl _
    · rw [← h, List.append_assoc]
      show _ <+: cut (bl d ++ 47 :: r)
      rw [cut_app]
      exact ⟨_, rfl⟩
  · rintro ⟨ws, h⟩
    by_cases hw : ws = []
    · subst hw
      rw [List.append_nil] at h
      exact .inr (.inl (bl_inj (cut_inj h)).symm)
    · refine .inr (.inr ⟨joinS ws, ?_⟩)
      rw [← joinS_cut (bl p), ← h, joinS_app _ _ (cut_ne _) hw, joinS_cut, List.append_assoc]; rfl
/-- a path in one directory as it is in another one -/
def pmove (p f t : ByteArray) : Option ByteArray :=
  if pathOk p = true ∧ pathOk f = true ∧ pathOk t = true ∧ within p f = true then
    (if pathOk (t ++ p.extract f.size p.size) = true then some (t ++ p.extract f.size p.size) else none)
  else none
theorem bl_app (a b : ByteArray) : bl (a ++ b) = bl a ++ bl b := by unfold bl; simp
theorem moved_key {p f t : ByteArray} (hpo : pathOk p = true) (hf : pathOk f = true) (hw : within p f = true) : cut (bl (t ++ p.extract f.size p.size)) = cut (bl t) ++ (cut (bl p)).drop (cut (bl f)).length := by
  obtain ⟨ws, h⟩ := (within_key hf).1 hw
  have hd : (cut (bl p)).drop (cut (bl f)).length = ws := by rw [← h, List.drop_left]
  rw [hd, bl_app, bl_extract, List.take_of_length_le (by rw [bl_length]; exact Nat.le_refl _)]
  by_cases hn : ws = []
  · subst hn
    rw [List.append_nil] at h
    rw [← cut_inj h, List.drop_eq_nil_of_le (by rw [bl_length]; exact Nat.le_refl _), List.append_nil, List.append_nil]
  · have hp : bl p = bl f ++ 47 :: joinS ws := by rw [← joinS_cut (bl p), ← h, joinS_app _ _ (cut_ne _) hn, joinS_cut]
    have hdr : (bl p).drop f.size = 47 :: joinS ws := by rw [hp, ← bl_length, List.drop_left]
    rw [hdr, cut_app]
    congr 1
    have hall : ws.all wordOk = true := by
      have := (pathOk_words hpo).1
      rw [← h, List.all_append, Bool.and_eq_true] at this
      exact this.2
    rw [cut_joinS ws hn hall]
theorem pmove_some {p f t o : ByteArray} (h : pmove p f t = some o) : pathOk p = true ∧ pathOk f = true ∧ pathOk t = true ∧ within p f = true ∧ pathOk o = true ∧ cut (bl o) = cut (bl t) ++ (cut (bl p)).drop (cut (bl f)).length := by
  unfold pmove at h
  split at h
  · next hc =>
    obtain ⟨h1, h2, h3, h4⟩ := hc
    split at h
    · next ho => cases h; exact ⟨h1, h2, h3, h4, ho, moved_key h1 h2 h4⟩
    · cases h
  · cases h
def mvItem (f t : ByteArray) (x : It) : Option It := (pmove x.path f t).map fun p => ⟨p, x.dir, x.ids⟩
/-- all copies, or nothing if one of them has no path -/
def copyAll (f t : ByteArray) : List It → Option (List It)
  | [] => some []
  | x :: r => if within x.path f = true then (mvItem f t x).bind fun y => (copyAll f t r).map fun ys => y :: ys else copyAll f t r
def insideOf (l : List It) (f : ByteArray) : List It := l.filter fun x => within x.path f
theorem copyAll_some {f t : ByteArray} : ∀ {l cs : List It}, copyAll f t l = some cs → cs.length = (insideOf l f).length ∧ (∀ x, x ∈ l → within x.path f = true → ∃ y, y ∈ cs ∧ mvItem f t x = some y) ∧ ∀ y, y ∈ cs → ∃ x, x ∈ l ∧ within x.path f = true ∧ mvItem f t x = some y := by
  intro l
  induction l with
  | nil => intro cs h; rw [copyAll] at h; cases h; exact ⟨rfl, fun x hx => by simp at hx, fun y hy => by simp at hy⟩
  | cons x r ih =>
    intro cs h
    rw [copyAll] at h
    split at h
    · next hw =>
      rw [Option.bind_eq_some_iff] at h
      obtain ⟨y, hy, h⟩ := h
      rw [Option.map_eq_some_iff] at h
      obtain ⟨ys, hys, rfl⟩ := h
      obtain ⟨h1, h2, h3⟩ := ih hys
      refine ⟨by rw [insideOf, List.filter_cons_of_pos (by simpa using hw), List.length_cons, List.length_cons, h1]; rfl, fun z hz hzw => ?_, fun z hz => ?_⟩
      · rcases List.mem_cons.1 hz with rfl | hz
        · exact ⟨y, by simp, hy⟩
        · obtain ⟨q, hq, e⟩ := h2 z hz hzw
          exact ⟨q, by simp [hq], e⟩
      · rcases List.mem_cons.1 hz with rfl | hz
        · exact ⟨x, by simp, hw, hy⟩
        · obtain ⟨q, hq, e⟩ := h3 z hz
          exact ⟨q, by simp [hq], e⟩
    · next hw =>
      obtain ⟨h1, h2, h3⟩ := ih h
      refine ⟨by rw [insideOf, List.filter_cons_of_neg (by simpa using hw), h1]; rfl, fun z hz hzw => ?_, fun z hz => ?_⟩
      · rcases List.mem_cons.1 hz with rfl | hz
        · exact absurd hzw hw
        · exact h2 z hz hzw
      · obtain ⟨q, hq, e⟩ := h3 z hz
        exact ⟨q, by simp [hq], e⟩
theorem mvItem_some {f t : ByteArray} {x y : It} (h : mvItem f t x = some y) : y.dir = x.dir ∧ y.ids = x.ids ∧ pmove x.path f t = some y.path ∧ key y = cut (bl t) ++ (key x).drop (cut (bl f)).length ∧ pathOk y.path = true := by
  unfold mvItem at h
  rw [Option.map_eq_some_iff] at h
  obtain ⟨p, hp, rfl⟩ := h
  obtain ⟨-, -, -, -, ho, hk⟩ := pmove_some hp
  exact ⟨rfl, rfl, hp, hk, ho⟩
theorem Srt.weak {l : List It} (h : Srt l) : Weak l := List.Pairwise.imp (fun {_ _} h => blt_asymm' h) h
theorem Srt.filter {l : List It} (h : Srt l) (p : It → Bool) : Srt (l.filter p) := List.Pairwise.filter p h
/-- what a move leaves -/
structure Moved (l : List It) (f t : ByteArray) (o : List It) (keep : List It) : Prop where
  lok : treeOk l = true
  fok : pathOk f = true
  tok : pathOk t = true
  has : ∃ x, x ∈ l ∧ x.path = f
  out : within t f = false
  free : ∀ y, y ∈ l → y.path ≠ t
  ook : treeOk o = true
  cs : ∃ cs, copyAll f t l = some cs ∧ o.Perm (cs ++ keep)
end Go.Sf

/-! The laws of moved and cloned trees, in plain words. -/
namespace Go.Sf
section
variable {l o keep : List It} {f t : ByteArray} (M : Moved l f t o keep)
include M
theorem Moved.noKt {x : It} (hx : x ∈ l) : ¬ cut (bl t) <+: key x := fun hp => by
  have hk := (treeOk_iff'.1 M.lok).2.prefix_ (key x) (.inr ⟨x, hx, rfl⟩) _ hp
  rcases hk with h | ⟨z, hz, h⟩
  · exact cut_ne _ h
  · exact M.free z hz (bl_inj (cut_inj h))
theorem Moved.noTf : ¬ cut (bl t) <+: cut (bl f) := by
  obtain ⟨x, hx, rfl⟩ := M.has
  exact M.noKt hx
theorem Moved.noFt : ¬ cut (bl f) <+: cut (bl t) := fun h => by
  have := (within_key M.fok).2 h
  rw [M.out] at this; cases this
theorem Moved.copy {cs : List It} (hc : copyAll f t l = some cs) {y : It} (hy : y ∈ cs) : ∃ x, x ∈ l ∧ within x.path f = true ∧ mvItem f t x = some y ∧ key y = cut (bl t) ++ (key x).drop (cut (bl f)).length ∧ pathOk y.path = true ∧ ¬ cut (bl f) <+: key y := by
  obtain ⟨x, hx, hw, hm⟩ := (copyAll_some hc).2.2 y hy
  obtain ⟨-, -, -, hk, ho⟩ := mvItem_some hm
  refine ⟨x, hx, hw, hm, hk, ho, fun hp => ?_⟩
  rw [hk] at hp
  rcases List.prefix_or_prefix_of_prefix hp (List.prefix_append _ _) with h | h
  · exact M.noFt h
  · exact M.noTf h
theorem Moved.len : o.length = (insideOf l f).length + keep.length := by
  obtain ⟨cs, hc, hp⟩ := M.cs
  rw [hp.length_eq, List.length_append, (copyAll_some hc).1]
end
section
variable {l o : List It} {f t : ByteArray}
end
end Go.Sf

/-! Changes made in a tree, plain. -/
namespace Go.Sf
theorem putIt_length {x : It} : ∀ l : List It, (putIt x l).length ≤ l.length + 1 := by
  intro l
  induction l with
  | nil => simp [putIt]
  | cons y r ih =>
    rw [putIt]
    split
    · simp; omega
    · have := List.length_filter_le (fun z => !eqb z.path x.path) (y :: r)
      simp at this ⊢; omega
end Go.Sf
