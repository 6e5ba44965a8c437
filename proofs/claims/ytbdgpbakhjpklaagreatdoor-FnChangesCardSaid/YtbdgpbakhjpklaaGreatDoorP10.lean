/- A valid tree is a sorted list of items whose directories are there: said without the order. -/
import Derived.Test.YtbdgpbakhjpklaaGreatDoorGB
namespace Go.Sf
def Srt (l : List It) : Prop := l.Pairwise fun x y => blt x.path y.path = true
def Home (l : List It) (x : It) : Prop := (key x).dropLast = [] ∨ ∃ z, z ∈ l ∧ key z = (key x).dropLast ∧ z.dir = true
theorem blt_irr (a : ByteArray) : blt a a = false := by rw [blt_eq]; exact lt8_irrefl _
theorem blt_asymm' {a b : ByteArray} (h : blt a b = true) : blt b a = false := by rw [blt_eq] at h ⊢; exact lt8_asymm h
theorem blt_tr {a b c : ByteArray} (h : blt a b = true) (k : blt b c = true) : blt a c = true := by rw [blt_eq] at *; exact lt8_trans _ _ _ h k
theorem blt_tot {a b : ByteArray} (h : blt a b = false) (k : blt b a = false) : a = b := by rw [blt_eq] at *; exact bl_inj (lt8_total _ _ h k)
theorem Srt.unique : ∀ {l l' : List It}, l.Perm l' → Srt l → Srt l' → l = l' := by
  intro l
  induction l with
  | nil => intro l' h _ _; exact (List.nil_perm.1 h).symm
  | cons a r ih =>
    intro l' h s s'
    cases l' with
    | nil => exact absurd h.length_eq (by simp)
    | cons b r' =>
      have hab : a = b := by
        have ha : a ∈ b :: r' := h.subset (by simp)
        have hb : b ∈ a :: r := h.symm.subset (by simp)
        rcases List.mem_cons.1 ha with e | ha
        · exact e
        · rcases List.mem_cons.1 hb with e | hb
          · exact e.symm
          · have h1 := (List.pairwise_cons.1 s).1 b hb
            have h2 := (List.pairwise_cons.1 s').1 a ha
            rw [blt_asymm' h1] at h2; cases h2
      subst hab
      rw [ih h.cons_inv (List.pairwise_cons.1 s).2 (List.pairwise_cons.1 s').2]
theorem Srt.inj {l : List It} (h : Srt l) {x y : It} (hx : x ∈ l) (hy : y ∈ l) (e : x.path = y.path) : x = y := by
  obtain ⟨i, hi⟩ := List.mem_iff_getElem?.1 hx
  obtain ⟨j, hj⟩ := List.mem_iff_getElem?.1 hy
  unfold Srt at h
  rw [List.pairwise_iff_getElem] at h
  obtain ⟨hi1, hi2⟩ := List.getElem?_eq_some_iff.1 hi
  obtain ⟨hj1, hj2⟩ := List.getElem?_eq_some_iff.1 hj
  rcases Nat.lt_trichotomy i j with hlt | rfl | hlt
  · have := h i j hi1 hj1 hlt
    rw [hi2, hj2, e, blt_irr] at this; cases this
  · rw [hi] at hj; exact Option.some.inj hj
  · have := h j i hj1 hi1 hlt
    rw [hi2, hj2, e, blt_irr] at this; cases this
theorem grow_set {l : List It} : Grow l ↔ Srt l ∧ ∀ x, x ∈ l → itemOk x = true ∧ Home l x := by
  constructor
  · intro h
    refine ⟨?_, fun x hx => h.fits hx⟩
    unfold Srt
    rw [List.pairwise_iff_getElem]
    intro i j hi hj hij
    rw [blt_eq]
    exact h.lt (List.getElem?_eq_getElem hi) (List.getElem?_eq_getElem hj) hij
  · rintro ⟨hs, hf⟩ k x hx
    have hxl := List.mem_of_getElem? hx
    obtain ⟨hi, hh⟩ := hf x hxl
    unfold Srt at hs
    rw [List.pairwise_iff_getElem] at hs
    obtain ⟨hk, hxe⟩ := List.getElem?_eq_some_iff.1 hx
    refine ⟨hi, fun y hy => ?_, ?_⟩
    · obtain ⟨j, hj⟩ := List.mem_iff_getElem?.1 hy
      rw [List.getElem?_take] at hj
      split at hj
      · next hjk =>
        obtain ⟨hj1, hj2⟩ := List.getElem?_eq_some_iff.1 hj
        have := hs j k hj1 hk hjk
        rw [hj2, hxe, blt_eq] at this
        exact this
      · cases hj
    · rcases hh with h0 | ⟨z, hz, hkz, hd⟩
      · exact .inl h0
      · refine .inr ⟨z, ?_, hkz, hd⟩
        have hne : (key x).dropLast ≠ [] := fun e => key_ne z (hkz.trans e)
        have hlt := parent_lt hne
        rw [← (parent_key (y := z) (itemOk_path hi) hne).2 hkz] at hlt
        obtain ⟨j, hj⟩ := List.mem_iff_getElem?.1 hz
        obtain ⟨hj1, hj2⟩ := List.getElem?_eq_some_iff.1 hj
        rcases Nat.lt_trichotomy j k with h1 | rfl | h1
        · rw [List.mem_iff_getElem?]
          exact ⟨j, by rw [List.getElem?_take, if_pos h1, hj]⟩
        · rw [hx] at hj
          rw [← Option.some.inj hj, lt8_irrefl] at hlt; cases hlt
        · have := hs k j hk hj1 h1
          rw [hj2, hxe, blt_eq] at this
          rw [lt8_asymm this] at hlt; cases hlt
theorem tree_set {l : List It} : treeOk l = true ↔ l.length ≤ 12 ∧ Srt l ∧ ∀ x, x ∈ l → itemOk x = true ∧ Home l x := by
  rw [treeOk_iff', grow_set]
/-! ### an item is put -/
def putIt (x : It) : List It → List It
  | [] => [x]
  | y :: r => if blt y.path x.path = true then y :: putIt x r else x :: (y :: r).filter fun z => !eqb z.path x.path
theorem findIt_isNone {l : List It} {p : ByteArray} : (findIt l p).isSome = false ↔ ∀ y, y ∈ l → y.path ≠ p := by
  constructor
  · intro h; exact findIt_none (by cases hf : findIt l p with | none => rfl | some y => rw [hf] at h; cases h)
  · intro h
    cases hf : findIt l p with
    | none => rfl
    | some y => obtain ⟨h1, h2⟩ := findIt_some hf; exact absurd h2 (h y h1)
theorem findIt_isSome {l : List It} {p : ByteArray} : (findIt l p).isSome = true ↔ ∃ y, y ∈ l ∧ y.path = p := by
  constructor
  · intro h
    cases hf : findIt l p with
    | none => rw [hf] at h; cases h
    | some y => exact ⟨y, findIt_some hf⟩
  · rintro ⟨y, hy, e⟩
    cases hf : findIt l p with
    | none => exact absurd e (findIt_none hf y hy)
    | some y => rfl
theorem filter_same {l : List It} {x : It} (h : ∀ y, y ∈ l → y.path ≠ x.path) : l.filter (fun z => !eqb z.path x.path) = l := by
  rw [List.filter_eq_self]
  intro y hy
  rw [eqb_false.2 (h y hy)]; rfl
theorem putIt_perm {x : It} : ∀ {l : List It}, (∀ y, y ∈ l → y.path ≠ x.path) → (putIt x l).Perm (x :: l) := by
  intro l
  induction l with
  | nil => intro _; exact List.Perm.refl _
  | cons y r ih =>
    intro h
    rw [putIt]
    split
    · exact ((ih fun z hz => h z (by simp [hz])).cons y).trans (List.Perm.swap x y r)
    · rw [filter_same h]
theorem putIt_srt {x : It} : ∀ {l : List It}, Srt l → (∀ y, y ∈ l → y.path ≠ x.path) → Srt (putIt x l) := by
  intro l
  induction l with
  | nil => intro _ _; exact List.pairwise_singleton _ _
  | cons y r ih =>
    intro s h
    have s' := List.pairwise_cons.1 s
    rw [putIt]
    split
    · next hlt =>
      refine List.Pairwise.cons (fun z hz => ?_) (ih s'.2 fun z hz => h z (by simp [hz]))
      have hz' := (putIt_perm (x := x) (l := r) fun z hz => h z (by simp [hz])).subset hz
      rcases List.mem_cons.1 hz' with rfl | hz'
      · exact hlt
      · exact s'.1 z hz'
    · next hlt =>
      rw [filter_same h]
      have hxy : blt x.path y.path = true := by
        cases hb : blt x.path y.path with
        | true => rfl
        | false => exact absurd (blt_tot (by simpa using hlt) hb) (h y (by simp))
      refine List.Pairwise.cons (fun z hz => ?_) s
      rcases List.mem_cons.1 hz with rfl | hz
      · exact hxy
      · exact blt_tr hxy (s'.1 z hz)
/-- items are put one by one, none of which is there -/
def placeAll : List It → List It → Option (List It)
  | l, [] => some l
  | l, c :: r => if (findIt l c.path).isSome = true then none else placeAll (putIt c l) r
def Apart (l : List It) : Prop := l.Pairwise fun x y => x.path ≠ y.path
theorem Srt.apart {l : List It} (h : Srt l) : Apart l := List.Pairwise.imp (fun {x y} hxy e => by rw [e, blt_irr] at hxy; cases hxy) h
theorem Apart.perm {l l' : List It} (h : Apart l) (p : l.Perm l') : Apart l' := (p.pairwise_iff (fun {_ _} h e => h e.symm)).1 h
theorem placeAll_some : ∀ {cs l o : List It}, Srt l → placeAll l cs = some o → o.Perm (cs ++ l) ∧ Srt o := by
  intro cs
  induction cs with
  | nil => intro l o s h; rw [placeAll] at h; cases h; exact ⟨List.Perm.refl _, s⟩
  | cons c r ih =>
    intro l o s h
    rw [placeAll] at h
    split at h
    · cases h
    · next hf =>
      have hn := findIt_isNone.1 (by simpa using hf)
      obtain ⟨h1, h2⟩ := ih (putIt_srt s hn) h
      exact ⟨h1.trans (((putIt_perm hn).append_left r).trans List.perm_middle), h2⟩
theorem placeAll_none : ∀ {cs l : List It}, Srt l → placeAll l cs = none → ¬ Apart (cs ++ l) := by
  intro cs
  induction cs with
  | nil => intro l s h; rw [placeAll] at h; cases h
  | cons c r ih =>
    intro l s h ha
    rw [placeAll] at h
    split at h
    · next hf =>
      obtain ⟨y, hy, e⟩ := findIt_isSome.1 hf
      exact (List.pairwise_cons.1 ha).1 y (by simp [hy]) e.symm
    · next hf =>
      have hn := findIt_isNone.1 (by simpa using hf)
      refine ih (putIt_srt s hn) h (ha.perm ?_)
      exact (List.perm_middle.symm).trans ((putIt_perm hn).symm.append_left r)
/-- sorted, equals in any order -/
def Weak (l : List It) : Prop := l.Pairwise fun x y => blt y.path x.path = false
theorem Weak.srt {l : List It} (h : Weak l) (ha : Apart l) : Srt l := by
  unfold Srt
  refine List.Pairwise.imp₂ (fun x y h1 h2 => ?_) h ha
  cases hb : blt x.path y.path with
  | true => rfl
  | false => exact absurd (blt_tot hb h1) h2
/-- what is put one by one is what a sort of all makes, if that is a tree -/
theorem placeAll_sort {cs l s : List It} (hl : Srt l) (hp : s.Perm (cs ++ l)) (hw : Weak s) : ((placeAll l cs).bind fun o => if treeOk o = true then some o else none) = if treeOk s = true then some s else none := by
  cases h : placeAll l cs with
  | none =>
    have hn := placeAll_none hl h
    rw [if_neg]
    · rfl
    · intro ht
      exact hn ((tree_set.1 ht).2.1.apart.perm hp)
  | some o =>
    obtain ⟨h1, h2⟩ := placeAll_some hl h
    have hs : Srt s := hw.srt (h2.apart.perm (h1.trans hp.symm))
    rw [Srt.unique (hp.trans h1.symm) hs h2]
    rfl
end Go.Sf
