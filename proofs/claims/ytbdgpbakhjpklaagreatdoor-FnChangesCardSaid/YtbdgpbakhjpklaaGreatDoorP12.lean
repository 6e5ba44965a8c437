/- The laws of moved and cloned trees, in plain words. -/
import Derived.Test.YtbdgpbakhjpklaaGreatDoorP11
namespace Go.Sf
theorem tree_item {l : List It} (h : treeOk l = true) {x : It} (hx : x ∈ l) : itemOk x = true := ((tree_set.1 h).2.2 x hx).1
theorem tree_path {l : List It} (h : treeOk l = true) {x : It} (hx : x ∈ l) : pathOk x.path = true := itemOk_path (tree_item h hx)
theorem tree_find {l : List It} (h : treeOk l = true) {x : It} (hx : x ∈ l) : findIt l x.path = some x := (treeOk_iff'.1 h).2.find hx
theorem copyAll_map {f t : ByteArray} : ∀ {l cs : List It}, copyAll f t l = some cs → cs = (insideOf l f).filterMap (mvItem f t) := by
  intro l
  induction l with
  | nil => intro cs h; rw [copyAll] at h; cases h; rfl
  | cons x r ih =>
    intro cs h
    rw [copyAll] at h
    split at h
    · next hw =>
      rw [Option.bind_eq_some_iff] at h
      obtain ⟨y, hy, h⟩ := h
      rw [Option.map_eq_some_iff] at h
      obtain ⟨ys, hys, rfl⟩ := h
      rw [insideOf, List.filter_cons_of_pos (by simpa using hw), List.filterMap_cons_some hy, ih hys]; rfl
    · next hw =>
      rw [ih h, insideOf, insideOf, List.filter_cons_of_neg (by simpa using hw)]
theorem copyAll_all {f t : ByteArray} : ∀ {l : List It}, (∀ x, x ∈ l → within x.path f = true → (mvItem f t x).isSome = true) → ∃ cs, copyAll f t l = some cs := by
  intro l
  induction l with
  | nil => intro _; exact ⟨[], rfl⟩
  | cons x r ih =>
    intro h
    obtain ⟨cs, hc⟩ := ih fun z hz => h z (by simp [hz])
    rw [copyAll]
    split
    · next hw =>
      obtain ⟨y, hy⟩ := Option.isSome_iff_exists.1 (h x (by simp) hw)
      rw [hy, hc]
      exact ⟨_, rfl⟩
    · exact ⟨cs, hc⟩
theorem split_perm (p : It → Bool) : ∀ l : List It, ((l.filter p) ++ (l.filter fun x => !p x)).Perm l := by
  intro l
  induction l with
  | nil => exact List.Perm.refl _
  | cons x r ih =>
    cases h : p x with
    | true => rw [List.filter_cons_of_pos h, List.filter_cons_of_neg (by simp [h])]; exact ih.cons x
    | false => rw [List.filter_cons_of_neg (by simp [h]), List.filter_cons_of_pos (by simp [h])]; exact List.perm_middle.trans (ih.cons x)
section
variable {l o keep : List It} {f t : ByteArray} (M : Moved l f t o keep)
include M
theorem Moved.noKt {x : It} (hx : x ∈ l) : ¬ cut (bl t) <+: key x := fun hp => by
  have hk := (treeOk_iff'.1 M.lok).2.prefix_ (key x) (.inr ⟨x, hx, rfl⟩) _ hp
  rcases hk with h | ⟨z, hz, h⟩
  · exact cut_ne _ h
  · exact M.free z hz (bl_inj (cut_inj h))
theorem Moved.noTf : ¬ cut (bl t) <+: cut (bl f) := by
  obtain ⟨x, hx, rfl⟩ := M.has
  exact M.noKt hx
theorem Moved.noFt : ¬ cut (bl f) <+: cut (bl t) := fun h => by
  have := (within_key M.fok).2 h
  rw [M.out] at this; cases this
theorem Moved.copy {cs : List It} (hc : copyAll f t l = some cs) {y : It} (hy : y ∈ cs) : ∃ x, x ∈ l ∧ within x.path f = true ∧ mvItem f t x = some y ∧ key y = cut (bl t) ++ (key x).drop (cut (bl f)).length ∧ pathOk y.path = true ∧ ¬ cut (bl f) <+: key y := by
  obtain ⟨x, hx, hw, hm⟩ := (copyAll_some hc).2.2 y hy
  obtain ⟨-, -, -, hk, ho⟩ := mvItem_some hm
  refine ⟨x, hx, hw, hm, hk, ho, fun hp => ?_⟩
  rw [hk] at hp
  rcases List.prefix_or_prefix_of_prefix hp (List.prefix_append _ _) with h | h
  · exact M.noFt h
  · exact M.noTf h
/-- what was inside is at its new place -/
theorem Moved.inside {x : It} (hx : x ∈ l) (hw : within x.path f = true) : ∃ y, y ∈ o ∧ mvItem f t x = some y := by
  obtain ⟨cs, hc, hp⟩ := M.cs
  obtain ⟨y, hy, hm⟩ := (copyAll_some hc).2.1 x hx hw
  exact ⟨y, hp.symm.subset (by simp [hy]), hm⟩
theorem Moved.kept {x : It} (hx : x ∈ keep) : x ∈ o := by
  obtain ⟨cs, hc, hp⟩ := M.cs
  exact hp.symm.subset (by simp [hx])
theorem Moved.len : o.length = (insideOf l f).length + keep.length := by
  obtain ⟨cs, hc, hp⟩ := M.cs
  rw [hp.length_eq, List.length_append, (copyAll_some hc).1]
theorem Moved.some_ : 1 ≤ (insideOf l f).length := by
  obtain ⟨x, hx, e⟩ := M.has
  have hm : x ∈ insideOf l f := List.mem_filter.2 ⟨hx, by rw [e]; exact (within_key M.fok).2 (List.prefix_refl _)⟩
  exact List.length_pos_of_mem hm
/-- the new place is there -/
theorem Moved.at_t : ∃ y, y ∈ o ∧ y.path = t := by
  obtain ⟨x, hx, e⟩ := M.has
  obtain ⟨y, hy, hm⟩ := M.inside hx (by rw [e]; exact (within_key M.fok).2 (List.prefix_refl _))
  obtain ⟨-, -, -, hk, -⟩ := mvItem_some hm
  refine ⟨y, hy, bl_inj (cut_inj ?_)⟩
  have hkx : key x = cut (bl f) := by unfold key; rw [e]
  rw [hkx, List.drop_length, List.append_nil] at hk
  exact hk
end
section
variable {l o : List It} {f t : ByteArray}
theorem rest_perm (l : List It) (f : ByteArray) : (insideOf l f ++ restOf l f).Perm l := split_perm _ l
theorem move_not_f (M : Moved l f t o (restOf l f)) : ∀ y, y ∈ o → within y.path f = false := fun y hy => by
  obtain ⟨cs, hc, hp⟩ := M.cs
  have := hp.subset hy
  rw [List.mem_append] at this
  rcases this with h | h
  · obtain ⟨x, -, -, -, -, -, hn⟩ := M.copy hc h
    cases hw : within y.path f with
    | false => rfl
    | true => exact absurd ((within_key M.fok).1 hw) hn
  · have := (List.mem_filter.1 h).2
    simpa using this
theorem move_len (M : Moved l f t o (restOf l f)) : o.length = l.length := by
  rw [M.len, ← List.length_append, (rest_perm l f).length_eq]
theorem within_self {p : ByteArray} : within p p = true := by unfold within; simp
theorem mvItem_back {x y : It} (hx : pathOk x.path = true) (hf : pathOk f = true) (ht : pathOk t = true) (hw : within x.path f = true) (hm : mvItem f t x = some y) : mvItem t f y = some x := by
  obtain ⟨h1, h2, h3, hk, ho⟩ := mvItem_some hm
  obtain ⟨ws, hws⟩ := (within_key hf).1 hw
  have hwy : within y.path t = true := (within_key ht).2 ⟨_, hk.symm⟩
  have : pmove y.path t f = some x.path := pmove_of ho ht hf hwy hx (by
    have e1 : (key x).drop (cut (bl f)).length = ws := by unfold key; rw [← hws, List.drop_left]
    have e2 : cut (bl y.path) = cut (bl t) ++ ws := by rw [← e1]; exact hk
    rw [e2, List.drop_left, hws])
  unfold mvItem
  rw [this, h1, h2]; rfl
/-- what was moved can be moved back -/
theorem move_back (M : Moved l f t o (restOf l f)) : moveOf o t f = some l := by
  obtain ⟨cs, hc, hp⟩ := M.cs
  have hcs := copyAll_map hc
  have ok : mvOk o t f = true := mvOk_iff.2 ⟨M.ook, M.tok, M.fok, M.at_t, by
      cases hw : within f t with
      | false => rfl
      | true => exact absurd ((within_key M.tok).1 hw) M.noTf, fun y hy e => by
      have := move_not_f M y hy
      rw [e, within_self] at this; cases this⟩
  have hin : ∀ y, y ∈ o → within y.path t = true → y ∈ cs := fun y hy hw => by
    have := hp.subset hy
    rw [List.mem_append] at this
    rcases this with h | h
    · exact h
    · exact absurd ((within_key M.tok).1 hw) (M.noKt (List.mem_filter.1 h).1)
  have back : ∀ y, y ∈ cs → ∃ x, x ∈ l ∧ mvItem t f y = some x := fun y hy => by
    obtain ⟨x, hx, hw, hm, -⟩ := M.copy hc hy
    exact ⟨x, hx, mvItem_back (tree_path M.lok hx) M.fok M.tok hw hm⟩
  obtain ⟨cs', hc'⟩ := copyAll_all (f := t) (t := f) (l := o) fun y hy hw => by
    obtain ⟨x, -, h⟩ := back y (hin y hy hw)
    rw [h]; rfl
  have inC : ∀ y, y ∈ cs → within y.path t = true := fun y hy => by
    obtain ⟨x, -, -, -, hk, -⟩ := M.copy hc hy
    exact (within_key M.tok).2 ⟨_, hk.symm⟩
  have outR : ∀ y, y ∈ restOf l f → within y.path t = false := fun y hy => by
    cases hw : within y.path t with
    | false => rfl
    | true => exact absurd ((within_key M.tok).1 hw) (M.noKt (List.mem_filter.1 hy).1)
  have e1 : (insideOf o t).Perm cs := by
    have := hp.filter fun x => within x.path t
    rw [List.filter_append, (List.filter_eq_self (l := cs)).2 inC, (List.filter_eq_nil_iff (l := restOf l f)).2 (fun y hy => by rw [outR y hy]; simp), List.append_nil] at this
    exact this
  have e2 : (restOf o t).Perm (restOf l f) := by
    have := hp.filter fun x => !within x.path t
    rw [List.filter_append, (List.filter_eq_nil_iff (l := cs)).2 (fun y hy => by rw [inC y hy]; simp), (List.filter_eq_self (l := restOf l f)).2 (fun y hy => by rw [outR y hy]; rfl), List.nil_append] at this
    exact this
  have e3 : cs.filterMap (mvItem t f) = insideOf l f := by
    rw [hcs, List.filterMap_filterMap]
    have : ∀ x, x ∈ insideOf l f → (mvItem f t x).bind (mvItem t f) = some x := fun x hx => by
      obtain ⟨hx1, hx2⟩ := List.mem_filter.1 hx
      obtain ⟨y, hy, hm⟩ := M.inside hx1 hx2
      rw [hm]
      exact mvItem_back (tree_path M.lok hx1) M.fok M.tok hx2 hm
    clear e1 e2 hc hcs hp hc'
    generalize insideOf l f = L at this
    induction L with
    | nil => rfl
    | cons x r ih =>
      rw [List.filterMap_cons_some (f := fun x => (mvItem f t x).bind (mvItem t f)) (this x (by simp)), ih fun z hz => this z (by simp [hz])]
  have e4 : cs'.Perm (insideOf l f) := by
    rw [copyAll_map hc', ← e3]
    exact e1.filterMap _
  rw [moveOf, if_pos ok, hc']
  exact placeOf_of ((tree_set.1 M.ook).2.1.filter _) M.lok ((rest_perm l f).symm.trans (e4.symm.append e2.symm))
theorem move_not_again (M : Moved l f t o (restOf l f)) : moveOf o f t = none := by
  rw [moveOf, if_neg]
  intro h
  obtain ⟨-, -, -, ⟨x, hx, e⟩, -⟩ := mvOk_iff.1 h
  have := move_not_f M x hx
  rw [e, within_self] at this; cases this
theorem move_not_inside {o : List It} {t t' : ByteArray} (h : pathOk t' = true → within t' t = true) : moveOf o t t' = none := by
  rw [moveOf, if_neg]
  intro hm
  obtain ⟨-, -, h3, -, h5, -⟩ := mvOk_iff.1 hm
  rw [h h3] at h5; cases h5
theorem clone_again (M : Moved l f t o l) : cloneOf o f t = none := by
  rw [cloneOf, if_neg]
  intro hm
  obtain ⟨-, -, -, -, -, h6⟩ := mvOk_iff.1 hm
  obtain ⟨y, hy, e⟩ := M.at_t
  exact h6 y hy e
/-- where a clone fits, it can be moved to -/
theorem clone_move (M : Moved l f t o l) : ∃ o', moveOf l f t = some o' := by
  obtain ⟨cs, hc, hp⟩ := M.cs
  have hl := tree_set.1 M.lok; have ho := tree_set.1 M.ook
  have outC : ∀ y, y ∈ cs → within y.path f = false := fun y hy => by
    obtain ⟨x, -, -, -, -, -, hn⟩ := M.copy hc hy
    cases hw : within y.path f with
    | false => rfl
    | true => exact absurd ((within_key M.fok).1 hw) hn
  have hp' : (restOf o f).Perm (cs ++ restOf l f) := by
    have := hp.filter fun x => !within x.path f
    rw [List.filter_append, (List.filter_eq_self (l := cs)).2 (fun y hy => by rw [outC y hy]; rfl)] at this
    exact this
  have ok : treeOk (restOf o f) = true := tree_set.2 ⟨Nat.le_trans (List.length_filter_le _ _) ho.1, ho.2.1.filter _, fun x hx => by
    obtain ⟨hx1, hx2⟩ := List.mem_filter.1 hx
    obtain ⟨h1, h2⟩ := ho.2.2 x hx1
    refine ⟨h1, ?_⟩
    rcases h2 with h | ⟨z, hz, hk, hd⟩
    · exact .inl h
    · refine .inr ⟨z, List.mem_filter.2 ⟨hz, ?_⟩, hk, hd⟩
      cases hw : within z.path f with
      | false => rfl
      | true =>
        have h3 := (within_key M.fok).1 hw
        have h4 : cut (bl f) <+: key x := by
          have : key z <+: key x := by rw [hk]; exact List.dropLast_prefix _
          exact List.IsPrefix.trans h3 this
        rw [(within_key M.fok).2 h4] at hx2
        cases hx2⟩
  have hm : mvOk l f t = true := mvOk_iff.2 ⟨M.lok, M.fok, M.tok, M.has, M.out, M.free⟩
  exact ⟨_, by rw [moveOf, if_pos hm, hc]; exact placeOf_of (hl.2.1.filter _) ok hp'⟩
end
end Go.Sf
