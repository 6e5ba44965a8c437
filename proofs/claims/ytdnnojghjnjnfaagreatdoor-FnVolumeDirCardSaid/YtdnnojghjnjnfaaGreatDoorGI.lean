/- A valid tree is a sorted list of items whose directories are there: said without the order. -/
import Derived.Test.YtdnnojghjnjnfaaGreatDoorGB
/-! A valid tree is a sorted list of items whose directories are there: said without the order. -/
namespace Go.Sf
def Srt (l : List It) : Prop := l.Pairwise fun x y => blt x.path y.path = true
def Home (l : List It) (x : It) : Prop := (key x).dropLast = [] ∨ ∃ z, z ∈ l ∧ key z = (key x).dropLast ∧ z.dir = true
theorem blt_irr (a : ByteArray) : blt a a = false := by rw [blt_eq]; exact lt8_irrefl _
theorem blt_asymm' {a b : ByteArray} (h : blt a b = true) : blt b a = false := by rw [blt_eq] at h ⊢; exact lt8_asymm h
theorem blt_tr {a b c : ByteArray} (h : blt a b = true) (k : blt b c = true) : blt a c = true := by rw [blt_eq] at *; exact lt8_trans _ _ _ h k
theorem blt_tot {a b : ByteArray} (h : blt a b = false) (k : blt b a = false) : a = b := by rw [blt_eq] at *; exact bl_inj (lt8_total _ _ h k)
theorem Srt.unique : ∀ {l l' : List It}, l.Perm l' → Srt l → Srt l' → l = l' := by
  intro l
  induction l with
  | nil => intro l' h _ _; exact (List.nil_perm.1 h).symm
  | cons a r ih =>
    intro l' h s s'
    cases l' with
    | nil => exact absurd h.length_eq (by simp)
    | cons b r' =>
      have hab : a = b := by
        have ha : a ∈ b :: r' := h.subset (by simp)
        have hb : b ∈ a :: r := h.symm.subset (by simp)
        rcases List.mem_cons.1 ha with e | ha
        · exact e
        · rcases List.mem_cons.1 hb with e | hb
          · exact e.symm
          · have h1 := (List.pairwise_cons.1 s).1 b hb
            have h2 := (List.pairwise_cons.1 s').1 a ha
            rw [blt_asymm' h1] at h2; cases h2
      subst hab
      rw [ih h.cons_inv (List.pairwise_cons.1 s).2 (List.pairwise_cons.1 s').2]
theorem Srt.inj {l : List It} (h : Srt l) {x y : It} (hx : x ∈ l) (hy : y ∈ l) (e : x.path = y.path) : x = y := by
  obtain ⟨i, hi⟩ := List.mem_iff_getElem?.1 hx
  obtain ⟨j, hj⟩ := List.mem_iff_getElem?.1 hy
  unfold Srt at h
  rw [List.pairwise_iff_getElem] at h
  obtain ⟨hi1, hi2⟩ := List.getElem?_eq_some_iff.1 hi
  obtain ⟨hj1, hj2⟩ := List.getElem?_eq_some_iff.1 hj
  rcases Nat.lt_trichotomy i j with hlt | rfl | hlt
  · have := h i j hi1 hj1 hlt
    rw [hi2, hj2, e, blt_irr] at this; cases this
  · rw [hi] at hj; exact Option.some.inj hj
  · have := h j i hj1 hi1 hlt
    rw [hi2, hj2, e, blt_irr] at this; cases this
theorem grow_set {l : List It} : Grow l ↔ Srt l ∧ ∀ x, x ∈ l → itemOk x = true ∧ Home l x := by
  constructor
  · intro h
    refine ⟨?_, fun x hx => h.fits hx⟩
    unfold Srt
    rw [List.pairwise_iff_getElem]
    intro i j hi hj hij
    rw [blt_eq]
    exact h.lt (List.getElem?_eq_getElem hi) (List.getElem?_eq_getElem hj) hij
  · rintro ⟨hs, hf⟩ k x hx
    have hxl := List.mem_of_getElem? hx
    obtain ⟨hi, hh⟩ := hf x hxl
    unfold Srt at hs
    rw [List.pairwise_iff_getElem] at hs
    obtain ⟨hk, hxe⟩ := List.getElem?_eq_some_iff.1 hx
    refine ⟨hi, fun y hy => ?_, ?_⟩
    · obtain ⟨j, hj⟩ := List.mem_iff_getElem?.1 hy
      rw [List.getElem?_take] at hj
      split at hj
      · next hjk =>
        obtain ⟨hj1, hj2⟩ := List.getElem?_eq_some_iff.1 hj
        have := hs j k hj1 hk hjk
        rw [hj2, hxe, blt_eq] at this
        exact this
      · cases hj
    · rcases hh with h0 | ⟨z, hz, hkz, hd⟩
      · exact .inl h0
      · refine .inr ⟨z, ?_, hkz, hd⟩
        have hne : (key x).dropLast ≠ [] := fun e => key_ne z (hkz.trans e)
        have hlt := parent_lt hne
        rw [← (parent_key (y := z) (itemOk_path hi) hne).2 hkz] at hlt
        obtain ⟨j, hj⟩ := List.mem_iff_getElem?.1 hz
        obtain ⟨hj1, hj2⟩ := List.getElem?_eq_some_iff.1 hj
        rcases Nat.lt_trichotomy j k with h1 | rfl | h1
        · rw [List.mem_iff_getElem?]
          exact ⟨j, by rw [List.getElem?_take, if_pos h1, hj]⟩
        · rw [hx] at hj
          rw [← Option.some.inj hj, lt8_irrefl] at hlt; cases hlt
        · have := hs k j hk hj1 h1
          rw [hj2, hxe, blt_eq] at this
          rw [lt8_asymm this] at hlt; cases hlt
theorem tree_set {l : List It} : treeOk l = true ↔ l.length ≤ 12 ∧ Srt l ∧ ∀ x, x ∈ l → itemOk x = true ∧ Home l x := by
  rw [treeOk_iff', grow_set]
/-! ### an item is put -/
def putIt (x : It) : List It → List It
  | [] => [x]
  | y :: r => if blt y.path x.path = true then y :: putIt x r else x :: (y :: r).filter fun z => !eqb z.path x.path
theorem findIt_isNone {l : List It} {p : ByteArray} : (findIt l p).isSome = false ↔ ∀ y, y ∈ l → y.path ≠ p := by
  constructor
  · intro h; exact findIt_none (by cases hf : findIt l p with | none => rfl | some y => rw [hf] at h; cases h)
  · intro h
    cases hf : findIt l p with
    | none => rfl
    | some y => obtain ⟨h1, h2⟩ := findIt_some hf; exact absurd h2 (h y h1)
theorem findIt_isSome {l : List It} {p : ByteArray} : (findIt l p).isSome = true ↔ ∃ y, y ∈ l ∧ y.path = p := by
  constructor
  · intro h
    cases hf : findIt l p with
    | none => rw [hf] at h; cases h
    | some y => exact ⟨y, findIt_some hf⟩
  · rintro ⟨y, hy, e⟩
    cases hf : findIt l p with
    | none => exact absurd e (findIt_none hf y hy)
    | some y => rfl
theorem filter_same {l : List It} {x : It} (h : ∀ y, y ∈ l → y.path ≠ x.path) : l.filter (fun z => !eqb z.path x.path) = l := by
  rw [List.filter_eq_self]
  intro y hy
  rw [eqb_false.2 (h y hy)]; rfl
theorem putIt_perm {x : It} : ∀ {l : List It}, (∀ y, y ∈ l → y.path ≠ x.path) → (putIt x l).Perm (x :: l) := by
  intro l
  induction l with
  | nil => intro _; exact List.Perm.refl _
  | cons y r ih =>
    intro h
    rw [putIt]
    split
    · exact ((ih fun z hz => h z (by simp [hz])).cons y).trans (List.Perm.swap x y r)
    · rw [filter_same h]
theorem putIt_srt {x : It} : ∀ {l : List It}, Srt l → (∀ y, y ∈ l → y.path ≠ x.path) → Srt (putIt x l) := by
  intro l
  induction l with
  | nil => intro _ _; exact List.pairwise_singleton _ _
  | cons y r ih =>
    intro s h
    have s' := List.pairwise_cons.1 s
    rw [putIt]
    split
    · next hlt =>
      refine List.Pairwise.cons (fun z hz => ?_) (ih s'.2 fun z hz => h z (by simp [hz]))
      have hz' := (putIt_perm (x := x) (l := r) fun z hz => h z (by simp [hz])).subset hz
      rcases List.mem_cons.1 hz' with rfl | hz'
      · exact hlt
      · exact s'.1 z hz'
    · next hlt =>
      rw [filter_same h]
      have hxy : blt x.path y.path = true := by
        cases hb : blt x.path y.path with
        | true => rfl
        | false => exact absurd (blt_tot (by simpa using hlt) hb) (h y (by simp))
      refine List.Pairwise.cons (fun z hz => ?_) s
      rcases List.mem_cons.1 hz with rfl | hz
      · exact hxy
      · exact blt_tr hxy (s'.1 z hz)
/-- items are put one by one, none of which is there -/
def placeAll : List It → List It → Option (List It)
  | l, [] => some l
  | l, c :: r => if (findIt l c.path).isSome = true then none else placeAll (putIt c l) r
def Apart (l : List It) : Prop := l.Pairwise fun x y => x.path ≠ y.path
theorem Srt.apart {l : List It} (h : Srt l) : Apart l := List.Pairwise.imp (fun {x y} hxy e => by rw [e, blt_irr] at hxy; cases hxy) h
theorem Apart.perm {l l' : List It} (h : Apart l) (p : l.Perm l') : Apart l' := (p.pairwise_iff (fun {_ _} h e => h e.symm)).1 h
theorem placeAll_some : ∀ {cs l o : List It}, Srt l → placeAll l cs = some o → o.Perm (cs ++ l) ∧ Srt o := by
  intro cs
  induction cs with
  | nil => intro l o s h; rw [placeAll] at h; cases h; exact ⟨List.Perm.refl _, s⟩
  | cons c r ih =>
    intro l o s h
    rw [placeAll] at h
    split at h
    · cases h
    · next hf =>
      have hn := findIt_isNone.1 (by simpa using hf)
      obtain ⟨h1, h2⟩ := ih (putIt_srt s hn) h
      exact ⟨h1.trans (((putIt_perm hn).append_left r).trans List.perm_middle), h2⟩
theorem placeAll_none : ∀ {cs l : List It}, Srt l → placeAll l cs = none → ¬ Apart (cs ++ l) := by
  intro cs
  induction cs with
  | nil => intro l s h; rw [placeAll] at h; cases h
  | cons c r ih =>
    intro l s h ha
    rw [placeAll] at h
    split at h
    · next hf =>
      obtain ⟨y, hy, e⟩ := findIt_isSome.1 hf
      exact (List.pairwise_cons.1 ha).1 y (by simp [hy]) e.symm
    · next hf =>
      have hn := findIt_isNone.1 (by simpa using hf)
      refine ih (putIt_srt s hn) h (ha.perm ?_)
      exact (List.perm_middle.symm).trans ((putIt_perm hn).symm.append_left r)
/-- sorted, equals in any order -/
def Weak (l : List It) : Prop := l.Pairwise fun x y => blt y.path x.path = false
theorem Weak.srt {l : List It} (h : Weak l) (ha : Apart l) : Srt l := by
  unfold Srt
  refine List.Pairwise.imp₂ (fun x y h1 h2 => ?_) h ha
  cases hb : blt x.path y.path with
  | true => rfl
  | false => exact absurd (blt_tot hb h1) h2
/-- what is put one by one is what a sort of all makes, if that is a tree -/
theorem placeAll_sort {cs l s : List It} (hl : Srt l) (hp : s.Perm (cs ++ l)) (hw : Weak s) : ((placeAll l cs).bind fun o => if treeOk o = true then some o else none) = if treeOk s = true then some s else none := by
  cases h : placeAll l cs with
  | none =>
    have hn := placeAll_none hl h
    rw [if_neg]
    · rfl
    · intro ht
      exact hn ((tree_set.1 ht).2.1.apart.perm hp)
  | some o =>
    obtain ⟨h1, h2⟩ := placeAll_some hl h
    have hs : Srt s := hw.srt (h2.apart.perm (h1.trans hp.symm))
    rw [Srt.unique (hp.trans h1.symm) hs h2]
    rfl
end Go.Sf

/-! Paths within others, paths moved; trees moved and cloned. -/
namespace Go.Sf
def within (p d : ByteArray) : Bool := decide (bl d = [] ∨ p = d ∨ bl d ++ [47] <+: bl p)
theorem cut_ne (l : List UInt8) : cut l ≠ [] := cutG_ne _ _
theorem cut_app (a b : List UInt8) : cut (a ++ 47 :: b) = cut a ++ cut b := cutG_app a b []
theorem pathOk_words {p : ByteArray} (h : pathOk p = true) : (cut (bl p)).all wordOk = true ∧ (cut (bl p)).length ≤ 4 := by
  unfold pathOk pathOkL at h
  simpa using h
theorem pathOk_ne {p : ByteArray} (h : pathOk p = true) : bl p ≠ [] := fun e => by
  have := (pathOk_words h).1
  rw [e] at this
  exact absurd this (by decide)
theorem within_key {p d : ByteArray} (hd : pathOk d = true) : within p d = true ↔ cut (bl d) <+: cut (bl p) := by
  unfold within
  rw [decide_eq_true_eq]
  constructor
  · rintro (h | rfl | ⟨r, h⟩)
    · exact absurd h (pathOk_ne hd)
    · exact List.prefix_refl _
    · rw [← h, List.append_assoc]
      show _ <+: cut (bl d ++ 47 :: r)
      rw [cut_app]
      exact ⟨_, rfl⟩
  · rintro ⟨ws, h⟩
    by_cases hw : ws = []
    · subst hw
      rw [List.append_nil] at h
      exact .inr (.inl (bl_inj (cut_inj h)).symm)
    · refine .inr (.inr ⟨joinS ws, ?_⟩)
      rw [← joinS_cut (bl p), ← h, joinS_app _ _ (cut_ne _) hw, joinS_cut, List.append_assoc]; rfl
/-- a path in one directory as it is in another one -/
def pmove (p f t : ByteArray) : Option ByteArray :=
  if pathOk p = true ∧ pathOk f = true ∧ pathOk t = true ∧ within p f = true then
    (if pathOk (t ++ p.extract f.size p.size) = true then some (t ++ p.extract f.size p.size) else none)
  else none
theorem bl_app (a b : ByteArray) : bl (a ++ b) = bl a ++ bl b := by unfold bl; simp
theorem moved_key {p f t : ByteArray} (hpo : pathOk p = true) (hf : pathOk f = true) (hw : within p f = true) : cut (bl (t ++ p.extract f.size p.size)) = cut (bl t) ++ (cut (bl p)).drop (cut (bl f)).length := by
  obtain ⟨ws, h⟩ := (within_key hf).1 hw
  have hd : (cut (bl p)).drop (cut (bl f)).length = ws := by rw [← h, List.drop_left]
  rw [hd, bl_app, bl_extract, List.take_of_length_le (by rw [bl_length]; exact Nat.le_refl _)]
  by_cases hn : ws = []
  · subst hn
    rw [List.append_nil] at h
    rw [← cut_inj h, List.drop_eq_nil_of_le (by rw [bl_length]; exact Nat.le_refl _), List.append_nil, List.append_nil]
  · have hp : bl p = bl f ++ 47 :: joinS ws := by rw [← joinS_cut (bl p), ← h, joinS_app _ _ (cut_ne _) hn, joinS_cut]
    have hdr : (bl p).drop f.size = 47 :: joinS ws := by rw [hp, ← bl_length, List.drop_left]
    rw [hdr, cut_app]
    congr 1
    have hall : ws.all wordOk = true := by
      have := (pathOk_words hpo).1
      rw [← h, List.all_append, Bool.and_eq_true] at this
      exact this.2
    rw [cut_joinS ws hn hall]
theorem pathOk_of {p : ByteArray} (h1 : (cut (bl p)).all wordOk = true) (h2 : (cut (bl p)).length ≤ 4) : pathOk p = true := by
  unfold pathOk pathOkL
  simp [h1, h2]
theorem pmove_some {p f t o : ByteArray} (h : pmove p f t = some o) : pathOk p = true ∧ pathOk f = true ∧ pathOk t = true ∧ within p f = true ∧ pathOk o = true ∧ cut (bl o) = cut (bl t) ++ (cut (bl p)).drop (cut (bl f)).length := by
  unfold pmove at h
  split at h
  · next hc =>
    obtain ⟨h1, h2, h3, h4⟩ := hc
    split at h
    · next ho => cases h; exact ⟨h1, h2, h3, h4, ho, moved_key h1 h2 h4⟩
    · cases h
  · cases h
/-- .. by its parts -/
theorem pmove_of {p f t o : ByteArray} (hp : pathOk p = true) (hf : pathOk f = true) (ht : pathOk t = true) (hw : within p f = true) (ho : pathOk o = true) (hk : cut (bl o) = cut (bl t) ++ (cut (bl p)).drop (cut (bl f)).length) : pmove p f t = some o := by
  have he : t ++ p.extract f.size p.size = o := bl_inj (cut_inj ((moved_key hp hf hw).trans hk.symm))
  rw [pmove, if_pos ⟨hp, hf, ht, hw⟩, he, if_pos ho]
def mvItem (f t : ByteArray) (x : It) : Option It := (pmove x.path f t).map fun p => ⟨p, x.dir, x.ids⟩
/-- all copies, or nothing if one of them has no path -/
def copyAll (f t : ByteArray) : List It → Option (List It)
  | [] => some []
  | x :: r => if within x.path f = true then (mvItem f t x).bind fun y => (copyAll f t r).map fun ys => y :: ys else copyAll f t r
def restOf (l : List It) (f : ByteArray) : List It := l.filter fun x => !within x.path f
def insideOf (l : List It) (f : ByteArray) : List It := l.filter fun x => within x.path f
noncomputable def mvOk (l : List It) (f t : ByteArray) : Bool := treeOk l && (pathOk f && (pathOk t && ((findIt l f).isSome && (!within t f && !(findIt l t).isSome))))
noncomputable def placeOf (l cs : List It) : Option (List It) := (placeAll l cs).bind fun o => if treeOk o = true then some o else none
noncomputable def moveOf (l : List It) (f t : ByteArray) : Option (List It) := if mvOk l f t = true then (copyAll f t l).bind fun cs => placeOf (restOf l f) cs else none
noncomputable def cloneOf (l : List It) (f t : ByteArray) : Option (List It) := if mvOk l f t = true then (copyAll f t l).bind fun cs => placeOf l cs else none
theorem copyAll_some {f t : ByteArray} : ∀ {l cs : List It}, copyAll f t l = some cs → cs.length = (insideOf l f).length ∧ (∀ x, x ∈ l → within x.path f = true → ∃ y, y ∈ cs ∧ mvItem f t x = some y) ∧ ∀ y, y ∈ cs → ∃ x, x ∈ l ∧ within x.path f = true ∧ mvItem f t x = some y := by
  intro l
  induction l with
  | nil => intro cs h; rw [copyAll] at h; cases h; exact ⟨rfl, fun x hx => by simp at hx, fun y hy => by simp at hy⟩
  | cons x r ih =>
    intro cs h
    rw [copyAll] at h
    split at h
    · next hw =>
      rw [Option.bind_eq_some_iff] at h
      obtain ⟨y, hy, h⟩ := h
      rw [Option.map_eq_some_iff] at h
      obtain ⟨ys, hys, rfl⟩ := h
      obtain ⟨h1, h2, h3⟩ := ih hys
      refine ⟨by rw [insideOf, List.filter_cons_of_pos (by simpa using hw), List.length_cons, List.length_cons, h1]; rfl, fun z hz hzw => ?_, fun z hz => ?_⟩
      · rcases List.mem_cons.1 hz with rfl | hz
        · exact ⟨y, by simp, hy⟩
        · obtain ⟨q, hq, e⟩ := h2 z hz hzw
          exact ⟨q, by simp [hq], e⟩
      · rcases List.mem_cons.1 hz with rfl | hz
        · exact ⟨x, by simp, hw, hy⟩
        · obtain ⟨q, hq, e⟩ := h3 z hz
          exact ⟨q, by simp [hq], e⟩
    · next hw =>
      obtain ⟨h1, h2, h3⟩ := ih h
      refine ⟨by rw [insideOf, List.filter_cons_of_neg (by simpa using hw), h1]; rfl, fun z hz hzw => ?_, fun z hz => ?_⟩
      · rcases List.mem_cons.1 hz with rfl | hz
        · exact absurd hzw hw
        · exact h2 z hz hzw
      · obtain ⟨q, hq, e⟩ := h3 z hz
        exact ⟨q, by simp [hq], e⟩
theorem mvItem_some {f t : ByteArray} {x y : It} (h : mvItem f t x = some y) : y.dir = x.dir ∧ y.ids = x.ids ∧ pmove x.path f t = some y.path ∧ key y = cut (bl t) ++ (key x).drop (cut (bl f)).length ∧ pathOk y.path = true := by
  unfold mvItem at h
  rw [Option.map_eq_some_iff] at h
  obtain ⟨p, hp, rfl⟩ := h
  obtain ⟨-, -, -, -, ho, hk⟩ := pmove_some hp
  exact ⟨rfl, rfl, hp, hk, ho⟩
theorem mvOk_iff {l : List It} {f t : ByteArray} : mvOk l f t = true ↔ treeOk l = true ∧ pathOk f = true ∧ pathOk t = true ∧ (∃ x, x ∈ l ∧ x.path = f) ∧ within t f = false ∧ ∀ y, y ∈ l → y.path ≠ t := by
  unfold mvOk
  simp only [Bool.and_eq_true, Bool.not_eq_true', findIt_isSome, findIt_isNone]
theorem placeOf_some {l cs o : List It} (hl : Srt l) (h : placeOf l cs = some o) : treeOk o = true ∧ o.Perm (cs ++ l) := by
  unfold placeOf at h
  rw [Option.bind_eq_some_iff] at h
  obtain ⟨o', h1, h2⟩ := h
  split at h2
  · next ht => cases h2; exact ⟨ht, (placeAll_some hl h1).1⟩
  · cases h2
theorem Srt.weak {l : List It} (h : Srt l) : Weak l := List.Pairwise.imp (fun {_ _} h => blt_asymm' h) h
theorem placeOf_of {l cs o : List It} (hl : Srt l) (ho : treeOk o = true) (hp : o.Perm (cs ++ l)) : placeOf l cs = some o := by
  unfold placeOf
  rw [placeAll_sort hl hp (tree_set.1 ho).2.1.weak, if_pos ho]
theorem Srt.filter {l : List It} (h : Srt l) (p : It → Bool) : Srt (l.filter p) := List.Pairwise.filter p h
/-- what a move leaves -/
structure Moved (l : List It) (f t : ByteArray) (o : List It) (keep : List It) : Prop where
  lok : treeOk l = true
  fok : pathOk f = true
  tok : pathOk t = true
  has : ∃ x, x ∈ l ∧ x.path = f
  out : within t f = false
  free : ∀ y, y ∈ l → y.path ≠ t
  ook : treeOk o = true
  cs : ∃ cs, copyAll f t l = some cs ∧ o.Perm (cs ++ keep)
theorem moveOf_some {l : List It} {f t : ByteArray} {o : List It} (h : moveOf l f t = some o) : Moved l f t o (restOf l f) := by
  unfold moveOf at h
  split at h
  · next hm =>
    obtain ⟨h1, h2, h3, h4, h5, h6⟩ := mvOk_iff.1 hm
    rw [Option.bind_eq_some_iff] at h
    obtain ⟨cs, hc, hp⟩ := h
    obtain ⟨p1, p2⟩ := placeOf_some ((tree_set.1 h1).2.1.filter _) hp
    exact ⟨h1, h2, h3, h4, h5, h6, p1, cs, hc, p2⟩
  · cases h
theorem cloneOf_some {l : List It} {f t : ByteArray} {o : List It} (h : cloneOf l f t = some o) : Moved l f t o l := by
  unfold cloneOf at h
  split at h
  · next hm =>
    obtain ⟨h1, h2, h3, h4, h5, h6⟩ := mvOk_iff.1 hm
    rw [Option.bind_eq_some_iff] at h
    obtain ⟨cs, hc, hp⟩ := h
    obtain ⟨p1, p2⟩ := placeOf_some (tree_set.1 h1).2.1 hp
    exact ⟨h1, h2, h3, h4, h5, h6, p1, cs, hc, p2⟩
  · cases h
end Go.Sf

/-! The laws of moved and cloned trees, in plain words. -/
namespace Go.Sf
theorem tree_item {l : List It} (h : treeOk l = true) {x : It} (hx : x ∈ l) : itemOk x = true := ((tree_set.1 h).2.2 x hx).1
theorem tree_path {l : List It} (h : treeOk l = true) {x : It} (hx : x ∈ l) : pathOk x.path = true := itemOk_path (tree_item h hx)
theorem tree_find {l : List It} (h : treeOk l = true) {x : It} (hx : x ∈ l) : findIt l x.path = some x := (treeOk_iff'.1 h).2.find hx
theorem copyAll_map {f t : ByteArray} : ∀ {l cs : List It}, copyAll f t l = some cs → cs = (insideOf l f).filterMap (mvItem f t) := by
  intro l
  induction l with
  | nil => intro cs h; rw [copyAll] at h; cases h; rfl
  | cons x r ih =>
    intro cs h
    rw [copyAll] at h
    split at h
    · next hw =>
      rw [Option.bind_eq_some_iff] at h
      obtain ⟨y, hy, h⟩ := h
      rw [Option.map_eq_some_iff] at h
      obtain ⟨ys, hys, rfl⟩ := h
      rw [insideOf, List.filter_cons_of_pos (by simpa using hw), List.filterMap_cons_some hy, ih hys]; rfl
    · next hw =>
      rw [ih h, insideOf, insideOf, List.filter_cons_of_neg (by simpa using hw)]
theorem copyAll_all {f t : ByteArray} : ∀ {l : List It}, (∀ x, x ∈ l → within x.path f = true → (mvItem f t x).isSome = true) → ∃ cs, copyAll f t l = some cs := by
  intro l
  induction l with
  | nil => intro _; exact ⟨[], rfl⟩
  | cons x r ih =>
    intro h
    obtain ⟨cs, hc⟩ := ih fun z hz => h z (by simp [hz])
    rw [copyAll]
    split
    · next hw =>
      obtain ⟨y, hy⟩ := Option.isSome_iff_exists.1 (h x (by simp) hw)
      rw [hy, hc]
      exact ⟨_, rfl⟩
    · exact ⟨cs, hc⟩
theorem split_perm (p : It → Bool) : ∀ l : List It, ((l.filter p) ++ (l.filter fun x => !p x)).Perm l := by
  intro l
  induction l with
  | nil => exact List.Perm.refl _
  | cons x r ih =>
    cases h : p x with
    | true => rw [List.filter_cons_of_pos h, List.filter_cons_of_neg (by simp [h])]; exact ih.cons x
    | false => rw [List.filter_cons_of_neg (by simp [h]), List.filter_cons_of_pos (by simp [h])]; exact List.perm_middle.trans (ih.cons x)
section
variable {l o keep : List It} {f t : ByteArray} (M : Moved l f t o keep)
include M
theorem Moved.noKt {x : It} (hx : x ∈ l) : ¬ cut (bl t) <+: key x := fun hp => by
  have hk := (treeOk_iff'.1 M.lok).2.prefix_ (key x) (.inr ⟨x, hx, rfl⟩) _ hp
  rcases hk with h | ⟨z, hz, h⟩
  · exact cut_ne _ h
  · exact M.free z hz (bl_inj (cut_inj h))
theorem Moved.noTf : ¬ cut (bl t) <+: cut (bl f) := by
  obtain ⟨x, hx, rfl⟩ := M.has
  exact M.noKt hx
theorem Moved.noFt : ¬ cut (bl f) <+: cut (bl t) := fun h => by
  have := (within_key M.fok).2 h
  rw [M.out] at this; cases this
theorem Moved.copy {cs : List It} (hc : copyAll f t l = some cs) {y : It} (hy : y ∈ cs) : ∃ x, x ∈ l ∧ within x.path f = true ∧ mvItem f t x = some y ∧ key y = cut (bl t) ++ (key x).drop (cut (bl f)).length ∧ pathOk y.path = true ∧ ¬ cut (bl f) <+: key y := by
  obtain ⟨x, hx, hw, hm⟩ := (copyAll_some hc).2.2 y hy
  obtain ⟨-, -, -, hk, ho⟩ := mvItem_some hm
  refine ⟨x, hx, hw, hm, hk, ho, fun hp => ?_⟩
  rw [hk] at hp
  rcases List.prefix_or_prefix_of_prefix hp (List.prefix_append _ _) with h | h
  · exact M.noFt h
  · exact M.noTf h
/-- what was inside is at its new place -/
theorem Moved.inside {x : It} (hx : x ∈ l) (hw : within x.path f = true) : ∃ y, y ∈ o ∧ mvItem f t x = some y := by
  obtain ⟨cs, hc, hp⟩ := M.cs
  obtain ⟨y, hy, hm⟩ := (copyAll_some hc).2.1 x hx hw
  exact ⟨y, hp.symm.subset (by simp [hy]), hm⟩
theorem Moved.kept {x : It} (hx : x ∈ keep) : x ∈ o := by
  obtain ⟨cs, hc, hp⟩ := M.cs
  exact hp.symm.subset (by simp [hx])
theorem Moved.len : o.length = (insideOf l f).length + keep.length := by
  obtain ⟨cs, hc, hp⟩ := M.cs
  rw [hp.length_eq, List.length_append, (copyAll_some hc).1]
theorem Moved.some_ : 1 ≤ (insideOf l f).length := by
  obtain ⟨x, hx, e⟩ := M.has
  have hm : x ∈ insideOf l f := List.mem_filter.2 ⟨hx, by rw [e]; exact (within_key M.fok).2 (List.prefix_refl _)⟩
  exact List.length_pos_of_mem hm
/-- the new place is there -/
theorem Moved.at_t : ∃ y, y ∈ o ∧ y.path = t := by
  obtain ⟨x, hx, e⟩ := M.has
  obtain ⟨y, hy, hm⟩ := M.inside hx (by rw [e]; exact (within_key M.fok).2 (List.prefix_refl _))
  obtain ⟨-, -, -, hk, -⟩ := mvItem_some hm
  refine ⟨y, hy, bl_inj (cut_inj ?_)⟩
  have hkx : key x = cut (bl f) := by unfold key; rw [e]
  rw [hkx, List.drop_length, List.append_nil] at hk
  exact hk
end
section
variable {l o : List It} {f t : ByteArray}
theorem rest_perm (l : List It) (f : ByteArray) : (insideOf l f ++ restOf l f).Perm l := split_perm _ l
theorem move_not_f (M : Moved l f t o (restOf l f)) : ∀ y, y ∈ o → within y.path f = false := fun y hy => by
  obtain ⟨cs, hc, hp⟩ := M.cs
  have := hp.subset hy
  rw [List.mem_append] at this
  rcases this with h | h
  · obtain ⟨x, -, -, -, -, -, hn⟩ := M.copy hc h
    cases hw : within y.path f with
    | false => rfl
    | true => exact absurd ((within_key M.fok).1 hw) hn
  · have := (List.mem_filter.1 h).2
    simpa using this
theorem move_len (M : Moved l f t o (restOf l f)) : o.length = l.length := by
  rw [M.len, ← List.length_append, (rest_perm l f).length_eq]
theorem within_self {p : ByteArray} : within p p = true := by unfold within; simp
theorem mvItem_back {x y : It} (hx : pathOk x.path = true) (hf : pathOk f = true) (ht : pathOk t = true) (hw : within x.path f = true) (hm : mvItem f t x = some y) : mvItem t f y = some x := by
  obtain ⟨h1, h2, h3, hk, ho⟩ := mvItem_some hm
  obtain ⟨ws, hws⟩ := (within_key hf).1 hw
  have hwy : within y.path t = true := (within_key ht).2 ⟨_, hk.symm⟩
  have : pmove y.path t f = some x.path := pmove_of ho ht hf hwy hx (by
    have e1 : (key x).drop (cut (bl f)).length = ws := by unfold key; rw [← hws, List.drop_left]
    have e2 : cut (bl y.path) = cut (bl t) ++ ws := by rw [← e1]; exact hk
    rw [e2, List.drop_left, hws])
  unfold mvItem
  rw [this, h1, h2]; rfl
/-- what was moved can be moved back -/
theorem move_back (M : Moved l f t o (restOf l f)) : moveOf o t f = some l := by
  obtain ⟨cs, hc, hp⟩ := M.cs
  have hcs := copyAll_map hc
  have ok : mvOk o t f = true := mvOk_iff.2 ⟨M.ook, M.tok, M.fok, M.at_t, by
      cases hw : within f t with
      | false => rfl
      | true => exact absurd ((within_key M.tok).1 hw) M.noTf, fun y hy e => by
      have := move_not_f M y hy
      rw [e, within_self] at this; cases this⟩
  have hin : ∀ y, y ∈ o → within y.path t = true → y ∈ cs := fun y hy hw => by
    have := hp.subset hy
    rw [List.mem_append] at this
    rcases this with h | h
    · exact h
    · exact absurd ((within_key M.tok).1 hw) (M.noKt (List.mem_filter.1 h).1)
  have back : ∀ y, y ∈ cs → ∃ x, x ∈ l ∧ mvItem t f y = some x := fun y hy => by
    obtain ⟨x, hx, hw, hm, -⟩ := M.copy hc hy
    exact ⟨x, hx, mvItem_back (tree_path M.lok hx) M.fok M.tok hw hm⟩
  obtain ⟨cs', hc'⟩ := copyAll_all (f := t) (t := f) (l := o) fun y hy hw => by
    obtain ⟨x, -, h⟩ := back y (hin y hy hw)
    rw [h]; rfl
  have inC : ∀ y, y ∈ cs → within y.path t = true := fun y hy => by
    obtain ⟨x, -, -, -, hk, -⟩ := M.copy hc hy
    exact (within_key M.tok).2 ⟨_, hk.symm⟩
  have outR : ∀ y, y ∈ restOf l f → within y.path t = false := fun y hy => by
    cases hw : within y.path t with
    | false => rfl
    | true => exact absurd ((within_key M.tok).1 hw) (M.noKt (List.mem_filter.1 hy).1)
  have e1 : (insideOf o t).Perm cs := by
    have := hp.filter fun x => within x.path t
    rw [List.filter_append, (List.filter_eq_self (l := cs)).2 inC, (List.filter_eq_nil_iff (l := restOf l f)).2 (fun y hy => by rw [outR y hy]; simp), List.append_nil] at this
    exact this
  have e2 : (restOf o t).Perm (restOf l f) := by
    have := hp.filter fun x => !within x.path t
    rw [List.filter_append, (List.filter_eq_nil_iff (l := cs)).2 (fun y hy => by rw [inC y hy]; simp), (List.filter_eq_self (l := restOf l f)).2 (fun y hy => by rw [outR y hy]; rfl), List.nil_append] at this
    exact this
  have e3 : cs.filterMap (mvItem t f) = insideOf l f := by
    rw [hcs, List.filterMap_filterMap]
    have : ∀ x, x ∈ insideOf l f → (mvItem f t x).bind (mvItem t f) = some x := fun x hx => by
      obtain ⟨hx1, hx2⟩ := List.mem_filter.1 hx
      obtain ⟨y, hy, hm⟩ := M.inside hx1 hx2
      rw [hm]
      exact mvItem_back (tree_path M.lok hx1) M.fok M.tok hx2 hm
    clear e1 e2 hc hcs hp hc'
    generalize insideOf l f = L at this
    induction L with
    | nil => rfl
    | cons x r ih =>
      rw [List.filterMap_cons_some (f := fun x => (mvItem f t x).bind (mvItem t f)) (this x (by simp)), ih fun z hz => this z (by simp [hz])]
  have e4 : cs'.Perm (insideOf l f) := by
    rw [copyAll_map hc', ← e3]
    exact e1.filterMap _
  rw [moveOf, if_pos ok, hc']
  exact placeOf_of ((tree_set.1 M.ook).2.1.filter _) M.lok ((rest_perm l f).symm.trans (e4.symm.append e2.symm))
theorem move_not_again (M : Moved l f t o (restOf l f)) : moveOf o f t = none := by
  rw [moveOf, if_neg]
  intro h
  obtain ⟨-, -, -, ⟨x, hx, e⟩, -⟩ := mvOk_iff.1 h
  have := move_not_f M x hx
  rw [e, within_self] at this; cases this
theorem move_not_inside {o : List It} {t t' : ByteArray} (h : pathOk t' = true → within t' t = true) : moveOf o t t' = none := by
  rw [moveOf, if_neg]
  intro hm
  obtain ⟨-, -, h3, -, h5, -⟩ := mvOk_iff.1 hm
  rw [h h3] at h5; cases h5
theorem clone_again (M : Moved l f t o l) : cloneOf o f t = none := by
  rw [cloneOf, if_neg]
  intro hm
  obtain ⟨-, -, -, -, -, h6⟩ := mvOk_iff.1 hm
  obtain ⟨y, hy, e⟩ := M.at_t
  exact h6 y hy e
/-- where a clone fits, it can be moved to -/
theorem clone_move (M : Moved l f t o l) : ∃ o', moveOf l f t = some o' := by
  obtain ⟨cs, hc, hp⟩ := M.cs
  have hl := tree_set.1 M.lok; have ho := tree_set.1 M.ook
  have outC : ∀ y, y ∈ cs → within y.path f = false := fun y hy => by
    obtain ⟨x, -, -, -, -, -, hn⟩ := M.copy hc hy
    cases hw : within y.path f with
    | false => rfl
    | true => exact absurd ((within_key M.fok).1 hw) hn
  have hp' : (restOf o f).Perm (cs ++ restOf l f) := by
    have := hp.filter fun x => !within x.path f
    rw [List.filter_append, (List.filter_eq_self (l := cs)).2 (fun y hy => by rw [outC y hy]; rfl)] at this
    exact this
  have ok : treeOk (restOf o f) = true := tree_set.2 ⟨Nat.le_trans (List.length_filter_le _ _) ho.1, ho.2.1.filter _, fun x hx => by
    obtain ⟨hx1, hx2⟩ := List.mem_filter.1 hx
    obtain ⟨h1, h2⟩ := ho.2.2 x hx1
    refine ⟨h1, ?_⟩
    rcases h2 with h | ⟨z, hz, hk, hd⟩
    · exact .inl h
    · refine .inr ⟨z, List.mem_filter.2 ⟨hz, ?_⟩, hk, hd⟩
      cases hw : within z.path f with
      | false => rfl
      | true =>
        have h3 := (within_key M.fok).1 hw
        have h4 : cut (bl f) <+: key x := by
          have : key z <+: key x := by rw [hk]; exact List.dropLast_prefix _
          exact List.IsPrefix.trans h3 this
        rw [(within_key M.fok).2 h4] at hx2
        cases hx2⟩
  have hm : mvOk l f t = true := mvOk_iff.2 ⟨M.lok, M.fok, M.tok, M.has, M.out, M.free⟩
  exact ⟨_, by rw [moveOf, if_pos hm, hc]; exact placeOf_of (hl.2.1.filter _) ok hp'⟩
end
end Go.Sf

/-! Changes made in a tree, plain. -/
namespace Go.Sf
def awP (x y : It) : Bool := !eqb y.path x.path
theorem mem_putIt {x z : It} : ∀ {l : List It}, Srt l → (z ∈ putIt x l ↔ z = x ∨ (z ∈ l ∧ z.path ≠ x.path)) := by
  intro l
  induction l with
  | nil => intro _; simp [putIt]
  | cons y r ih =>
    intro h
    have h' := List.pairwise_cons.1 h
    rw [putIt]
    split
    case isTrue hb =>
      rw [List.mem_cons, ih h'.2, List.mem_cons]
      have hy : y.path ≠ x.path := fun e => by rw [e, blt_irr] at hb; cases hb
      constructor
      · rintro (rfl | rfl | ⟨h1, h2⟩)
        · exact .inr ⟨.inl rfl, hy⟩
        · exact .inl rfl
        · exact .inr ⟨.inr h1, h2⟩
      · rintro (rfl | ⟨rfl | h1, h2⟩)
        · exact .inr (.inl rfl)
        · exact .inl rfl
        · exact .inr (.inr ⟨h1, h2⟩)
    case isFalse hb =>
      rw [List.mem_cons, List.mem_filter]
      constructor
      · rintro (rfl | ⟨h1, h2⟩)
        · exact .inl rfl
        · exact .inr ⟨h1, eqb_false.1 (by simpa using h2)⟩
      · rintro (rfl | ⟨h1, h2⟩)
        · exact .inl rfl
        · exact .inr ⟨h1, by rw [eqb_false.2 h2]; rfl⟩
theorem putIt_srt' {x : It} : ∀ {l : List It}, Srt l → Srt (putIt x l) := by
  intro l
  induction l with
  | nil => intro _; exact List.pairwise_singleton _ _
  | cons y r ih =>
    intro h
    have h' := List.pairwise_cons.1 h
    rw [putIt]
    split
    case isTrue hb =>
      refine List.pairwise_cons.2 ⟨fun z hz => ?_, ih h'.2⟩
      rcases (mem_putIt h'.2).1 hz with rfl | ⟨hz, -⟩
      · exact hb
      · exact h'.1 z hz
    case isFalse hb =>
      refine List.pairwise_cons.2 ⟨fun z hz => ?_, List.Pairwise.filter _ h⟩
      obtain ⟨hz, hne⟩ := List.mem_filter.1 hz
      have hne := eqb_false.1 (show eqb z.path x.path = false by simpa using hne)
      have hzx : blt z.path x.path = false := by
        cases hc : blt z.path x.path with
        | false => rfl
        | true =>
          rcases List.mem_cons.1 hz with rfl | hz
          · exact absurd hc hb
          · exact absurd (blt_tr (h'.1 z hz) hc) hb
      cases hc : blt x.path z.path with
      | true => rfl
      | false => exact absurd (blt_tot hzx hc) hne
theorem find_iff {l : List It} (h : Srt l) {p : ByteArray} {y : It} : findIt l p = some y ↔ y ∈ l ∧ y.path = p := by
  constructor
  · exact findIt_some
  · rintro ⟨h1, h2⟩
    cases hf : findIt l p with
    | none => exact absurd h2 (findIt_none hf y h1)
    | some z =>
      obtain ⟨k1, k2⟩ := findIt_some hf
      rw [h.inj k1 h1 (k2.trans h2.symm)]
theorem find_put {x : It} {l : List It} (h : Srt l) (p : ByteArray) : findIt (putIt x l) p = if p = x.path then some x else findIt l p := by
  apply Option.ext
  intro y
  rw [find_iff (putIt_srt' h), mem_putIt h]
  split
  case isTrue e =>
    subst e
    constructor
    · rintro ⟨rfl | ⟨-, hn⟩, e⟩
      · rfl
      · exact absurd e hn
    · intro e; cases e; exact ⟨.inl rfl, rfl⟩
  case isFalse e =>
    rw [find_iff h]
    constructor
    · rintro ⟨rfl | ⟨h1, -⟩, h2⟩
      · exact absurd h2.symm e
      · exact ⟨h1, h2⟩
    · rintro ⟨h1, h2⟩
      exact ⟨.inr ⟨h1, fun q => e (h2.symm.trans q)⟩, h2⟩
theorem find_drop {x : It} {l : List It} (h : Srt l) (p : ByteArray) : findIt (l.filter (awP x)) p = if p = x.path then none else findIt l p := by
  apply Option.ext
  intro y
  rw [find_iff (List.Pairwise.filter _ h), List.mem_filter]
  split
  case isTrue e =>
    subst e
    constructor
    · rintro ⟨⟨-, hn⟩, e⟩
      exact absurd e (eqb_false.1 (by simpa [awP] using hn))
    · intro e; cases e
  case isFalse e =>
    rw [find_iff h]
    constructor
    · rintro ⟨⟨h1, -⟩, h2⟩; exact ⟨h1, h2⟩
    · rintro ⟨h1, h2⟩
      exact ⟨⟨h1, by rw [awP, eqb_false.2 fun q => e (h2.symm.trans q)]; rfl⟩, h2⟩
theorem putIt_length {x : It} : ∀ l : List It, (putIt x l).length ≤ l.length + 1 := by
  intro l
  induction l with
  | nil => simp [putIt]
  | cons y r ih =>
    rw [putIt]
    split
    · simp; omega
    · have := List.length_filter_le (fun z => !eqb z.path x.path) (y :: r)
      simp at this ⊢; omega
/-- one change -/
noncomputable def stepOf (S : List It) (c : Ch) : Option (List It) :=
  if c.kind = 1 then (if (findIt S c.item.path).isSome = true then none else some (putIt c.item S))
  else if c.kind = 2 then (if findIt S c.item.path = some c.item then some (S.filter (awP c.item)) else none)
  else if c.kind = 3 then (if ∃ y, findIt S c.item.path = some y ∧ y.dir = false ∧ c.item.dir = false ∧ y.ids ≠ c.item.ids then some (putIt c.item S) else none)
  else none
noncomputable def runAll : List It → List Ch → Option (List It)
  | S, [] => some S
  | S, c :: r => if itemOk c.item = true then (stepOf S c).bind fun S' => runAll S' r else none
noncomputable def runOf (l : List It) (cs : List Ch) : Option (List It) := if treeOk l = true then (runAll l cs).bind fun o => if treeOk o = true then some o else none else none
theorem step_srt {S S' : List It} {c : Ch} (h : Srt S) (hs : stepOf S c = some S') : Srt S' ∧ S'.length ≤ S.length + 1 := by
  unfold stepOf at hs
  split at hs
  · split at hs
    · cases hs
    · cases hs; exact ⟨putIt_srt' h, putIt_length _⟩
  · split at hs
    · split at hs
      · cases hs; exact ⟨List.Pairwise.filter _ h, Nat.le_trans (List.length_filter_le _ _) (Nat.le_succ _)⟩
      · cases hs
    · split at hs
      · split at hs
        · cases hs; exact ⟨putIt_srt' h, putIt_length _⟩
        · cases hs
      · cases hs
theorem run_bad {S : List It} {c : Ch} {r : List Ch} (h : itemOk c.item = false) : runAll S (c :: r) = none := by rw [runAll, if_neg (by simp [h])]
theorem run_none {S : List It} {c : Ch} {r : List Ch} (h : stepOf S c = none) : runAll S (c :: r) = none := by rw [runAll, h]; split <;> rfl
theorem run_step {S S' : List It} {c : Ch} {r : List Ch} (h : itemOk c.item = true) (hs : stepOf S c = some S') : runAll S (c :: r) = runAll S' r := by rw [runAll, if_pos h, hs]; rfl
end Go.Sf
