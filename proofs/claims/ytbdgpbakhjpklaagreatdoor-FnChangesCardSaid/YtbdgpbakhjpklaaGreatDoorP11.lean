/- Paths within others, paths moved; trees moved and cloned. -/
import Derived.Test.YtbdgpbakhjpklaaGreatDoorP10
namespace Go.Sf
def within (p d : ByteArray) : Bool := decide (bl d = [] ∨ p = d ∨ bl d ++ [47] <+: bl p)
theorem cut_ne (l : List UInt8) : cut l ≠ [] := cutG_ne _ _
theorem cut_app (a b : List UInt8) : cut (a ++ 47 :: b) = cut a ++ cut b := cutG_app a b []
theorem pathOk_words {p : ByteArray} (h : pathOk p = true) : (cut (bl p)).all wordOk = true ∧ (cut (bl p)).length ≤ 4 := by
  unfold pathOk pathOkL at h
  simpa using h
theorem pathOk_ne {p : ByteArray} (h : pathOk p = true) : bl p ≠ [] := fun e => by
  have := (pathOk_words h).1
  rw [e] at this
  exact absurd this (by decide)
theorem within_key {p d : ByteArray} (hd : pathOk d = true) : within p d = true ↔ cut (bl d) <+: cut (bl p) := by
  unfold within
  rw [decide_eq_true_eq]
  constructor
  · rintro (h | rfl | ⟨r, h⟩)
    · exact absurd h (pathOk_ne hd)
    · exact List.prefix_refl _
    · rw [← h, List.append_assoc]
      show _ <+: cut (bl d ++ 47 :: r)
      rw [cut_app]
      exact ⟨_, rfl⟩
  · rintro ⟨ws, h⟩
    by_cases hw : ws = []
    · subst hw
      rw [List.append_nil] at h
      exact .inr (.inl (bl_inj (cut_inj h)).symm)
    · refine .inr (.inr ⟨joinS ws, ?_⟩)
      rw [← joinS_cut (bl p), ← h, joinS_app _ _ (cut_ne _) hw, joinS_cut, List.append_assoc]; rfl
/-- a path in one directory as it is in another one -/
def pmove (p f t : ByteArray) : Option ByteArray :=
  if pathOk p = true ∧ pathOk f = true ∧ pathOk t = true ∧ within p f = true then
    (if pathOk (t ++ p.extract f.size p.size) = true then some (t ++ p.extract f.size p.size) else none)
  else none
theorem bl_app (a b : ByteArray) : bl (a ++ b) = bl a ++ bl b := by unfold bl; simp
theorem moved_key {p f t : ByteArray} (hpo : pathOk p = true) (hf : pathOk f = true) (hw : within p f = true) : cut (bl (t ++ p.extract f.size p.size)) = cut (bl t) ++ (cut (bl p)).drop (cut (bl f)).length := by
  obtain ⟨ws, h⟩ := (within_key hf).1 hw
  have hd : (cut (bl p)).drop (cut (bl f)).length = ws := by rw [← h, List.drop_left]
  rw [hd, bl_app, bl_extract, List.take_of_length_le (by rw [bl_length]; exact Nat.le_refl _)]
  by_cases hn : ws = []
  · subst hn
    rw [List.append_nil] at h
    rw [← cut_inj h, List.drop_eq_nil_of_le (by rw [bl_length]; exact Nat.le_refl _), List.append_nil, List.append_nil]
  · have hp : bl p = bl f ++ 47 :: joinS ws := by rw [← joinS_cut (bl p), ← h, joinS_app _ _ (cut_ne _) hn, joinS_cut]
    have hdr : (bl p).drop f.size = 47 :: joinS ws := by rw [hp, ← bl_length, List.drop_left]
    rw [hdr, cut_app]
    congr 1
    have hall : ws.all wordOk = true := by
      have := (pathOk_words hpo).1
      rw [← h, List.all_append, Bool.and_eq_true] at this
      exact this.2
    rw [cut_joinS ws hn hall]
theorem pathOk_of {p : ByteArray} (h1 : (cut (bl p)).all wordOk = true) (h2 : (cut (bl p)).length ≤ 4) : pathOk p = true := by
  unfold pathOk pathOkL
  simp [h1, h2]
theorem pmove_some {p f t o : ByteArray} (h : pmove p f t = some o) : pathOk p = true ∧ pathOk f = true ∧ pathOk t = true ∧ within p f = true ∧ pathOk o = true ∧ cut (bl o) = cut (bl t) ++ (cut (bl p)).drop (cut (bl f)).length := by
  unfold pmove at h
  split at h
  · next hc =>
    obtain ⟨h1, h2, h3, h4⟩ := hc
    split at h
    · next ho => cases h; exact ⟨h1, h2, h3, h4, ho, moved_key h1 h2 h4⟩
    · cases h
  · cases h
/-- .. by its parts -/
theorem pmove_of {p f t o : ByteArray} (hp : pathOk p = true) (hf : pathOk f = true) (ht : pathOk t = true) (hw : within p f = true) (ho : pathOk o = true) (hk : cut (bl o) = cut (bl t) ++ (cut (bl p)).drop (cut (bl f)).length) : pmove p f t = some o := by
  have he : t ++ p.extract f.size p.size = o := bl_inj (cut_inj ((moved_key hp hf hw).trans hk.symm))
  rw [pmove, if_pos ⟨hp, hf, ht, hw⟩, he, if_pos ho]
def mvItem (f t : ByteArray) (x : It) : Option It := (pmove x.path f t).map fun p => ⟨p, x.dir, x.ids⟩
/-- all copies, or nothing if one of them has no path -/
def copyAll (f t : ByteArray) : List It → Option (List It)
  | [] => some []
  | x :: r => if within x.path f = true then (mvItem f t x).bind fun y => (copyAll f t r).map fun ys => y :: ys else copyAll f t r
def restOf (l : List It) (f : ByteArray) : List It := l.filter fun x => !within x.path f
def insideOf (l : List It) (f : ByteArray) : List It := l.filter fun x => within x.path f
noncomputable def mvOk (l : List It) (f t : ByteArray) : Bool := treeOk l && (pathOk f && (pathOk t && ((findIt l f).isSome && (!within t f && !(findIt l t).isSome))))
noncomputable def placeOf (l cs : List It) : Option (List It) := (placeAll l cs).bind fun o => if treeOk o = true then some o else none
noncomputable def moveOf (l : List It) (f t : ByteArray) : Option (List It) := if mvOk l f t = true then (copyAll f t l).bind fun cs => placeOf (restOf l f) cs else none
noncomputable def cloneOf (l : List It) (f t : ByteArray) : Option (List It) := if mvOk l f t = true then (copyAll f t l).bind fun cs => placeOf l cs else none
theorem copyAll_some {f t : ByteArray} : ∀ {l cs : List It}, copyAll f t l = some cs → cs.length = (insideOf l f).length ∧ (∀ x, x ∈ l → within x.path f = true → ∃ y, y ∈ cs ∧ mvItem f t x = some y) ∧ ∀ y, y ∈ cs → ∃ x, x ∈ l ∧ within x.path f = true ∧ mvItem f t x = some y := by
  intro l
  induction l with
  | nil => intro cs h; rw [copyAll] at h; cases h; exact ⟨rfl, fun x hx => by simp at hx, fun y hy => by simp at hy⟩
  | cons x r ih =>
    intro cs h
    rw [copyAll] at h
    split at h
    · next hw =>
      rw [Option.bind_eq_some_iff] at h
      obtain ⟨y, hy, h⟩ := h
      rw [Option.map_eq_some_iff] at h
      obtain ⟨ys, hys, rfl⟩ := h
      obtain ⟨h1, h2, h3⟩ := ih hys
      refine ⟨by rw [insideOf, List.filter_cons_of_pos (by simpa using hw), List.length_cons, List.length_cons, h1]; rfl, fun z hz hzw => ?_, fun z hz => ?_⟩
      · rcases List.mem_cons.1 hz with rfl | hz
        · exact ⟨y, by simp, hy⟩
        · obtain ⟨q, hq, e⟩ := h2 z hz hzw
          exact ⟨q, by simp [hq], e⟩
      · rcases List.mem_cons.1 hz with rfl | hz
        · exact ⟨x, by simp, hw, hy⟩
        · obtain ⟨q, hq, e⟩ := h3 z hz
          exact ⟨q, by simp [hq], e⟩
    · next hw =>
      obtain ⟨h1, h2, h3⟩ := ih h
      refine ⟨by rw [insideOf, List.filter_cons_of_neg (by simpa using hw), h1]; rfl, fun z hz hzw => ?_, fun z hz => ?_⟩
      · rcases List.mem_cons.1 hz with rfl | hz
        · exact absurd hzw hw
        · exact h2 z hz hzw
      · obtain ⟨q, hq, e⟩ := h3 z hz
        exact ⟨q, by simp [hq], e⟩
theorem mvItem_some {f t : ByteArray} {x y : It} (h : mvItem f t x = some y) : y.dir = x.dir ∧ y.ids = x.ids ∧ pmove x.path f t = some y.path ∧ key y = cut (bl t) ++ (key x).drop (cut (bl f)).length ∧ pathOk y.path = true := by
  unfold mvItem at h
  rw [Option.map_eq_some_iff] at h
  obtain ⟨p, hp, rfl⟩ := h
  obtain ⟨-, -, -, -, ho, hk⟩ := pmove_some hp
  exact ⟨rfl, rfl, hp, hk, ho⟩
theorem mvOk_iff {l : List It} {f t : ByteArray} : mvOk l f t = true ↔ treeOk l = true ∧ pathOk f = true ∧ pathOk t = true ∧ (∃ x, x ∈ l ∧ x.path = f) ∧ within t f = false ∧ ∀ y, y ∈ l → y.path ≠ t := by
  unfold mvOk
  simp only [Bool.and_eq_true, Bool.not_eq_true', findIt_isSome, findIt_isNone]
theorem placeOf_some {l cs o : List It} (hl : Srt l) (h : placeOf l cs = some o) : treeOk o = true ∧ o.Perm (cs ++ l) := by
  unfold placeOf at h
  rw [Option.bind_eq_some_iff] at h
  obtain ⟨o', h1, h2⟩ := h
  split at h2
  · next ht => cases h2; exact ⟨ht, (placeAll_some hl h1).1⟩
  · cases h2
theorem Srt.weak {l : List It} (h : Srt l) : Weak l := List.Pairwise.imp (fun {_ _} h => blt_asymm' h) h
theorem placeOf_of {l cs o : List It} (hl : Srt l) (ho : treeOk o = true) (hp : o.Perm (cs ++ l)) : placeOf l cs = some o := by
  unfold placeOf
  rw [placeAll_sort hl hp (tree_set.1 ho).2.1.weak, if_pos ho]
theorem Srt.filter {l : List It} (h : Srt l) (p : It → Bool) : Srt (l.filter p) := List.Pairwise.filter p h
/-- what a move leaves -/
structure Moved (l : List It) (f t : ByteArray) (o : List It) (keep : List It) : Prop where
  lok : treeOk l = true
  fok : pathOk f = true
  tok : pathOk t = true
  has : ∃ x, x ∈ l ∧ x.path = f
  out : within t f = false
  free : ∀ y, y ∈ l → y.path ≠ t
  ook : treeOk o = true
  cs : ∃ cs, copyAll f t l = some cs ∧ o.Perm (cs ++ keep)
theorem moveOf_some {l : List It} {f t : ByteArray} {o : List It} (h : moveOf l f t = some o) : Moved l f t o (restOf l f) := by
  unfold moveOf at h
  split at h
  · next hm =>
    obtain ⟨h1, h2, h3, h4, h5, h6⟩ := mvOk_iff.1 hm
    rw [Option.bind_eq_some_iff] at h
    obtain ⟨cs, hc, hp⟩ := h
    obtain ⟨p1, p2⟩ := placeOf_some ((tree_set.1 h1).2.1.filter _) hp
    exact ⟨h1, h2, h3, h4, h5, h6, p1, cs, hc, p2⟩
  · cases h
theorem cloneOf_some {l : List It} {f t : ByteArray} {o : List It} (h : cloneOf l f t = some o) : Moved l f t o l := by
  unfold cloneOf at h
  split at h
  · next hm =>
    obtain ⟨h1, h2, h3, h4, h5, h6⟩ := mvOk_iff.1 hm
    rw [Option.bind_eq_some_iff] at h
    obtain ⟨cs, hc, hp⟩ := h
    obtain ⟨p1, p2⟩ := placeOf_some (tree_set.1 h1).2.1 hp
    exact ⟨h1, h2, h3, h4, h5, h6, p1, cs, hc, p2⟩
  · cases h
end Go.Sf
