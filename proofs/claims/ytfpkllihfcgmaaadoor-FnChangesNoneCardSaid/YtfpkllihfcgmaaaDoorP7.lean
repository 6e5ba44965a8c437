/- Plain laws of the changes between two trees. -/
import Derived.Test.YtfpkllihfcgmaaaDoorT26
import Derived.Test.YtfpkllihfcgmaaaDoorT21
namespace Go.Sf
theorem blt_asym {a b : ByteArray} (h : blt a b = true) : blt b a = false := by
  cases hb : blt b a with
  | false => rfl
  | true => have := blt_trans h hb; rw [blt_irrefl] at this; cases this
/-- how chg goes through two lists -/
theorem chg_ind {M : List It → List It → Prop} (h0 : M [] []) (h1 : ∀ a az, M az [] → M (a :: az) []) (h2 : ∀ b bz, M [] bz → M [] (b :: bz))
    (h3 : ∀ a az b bz, blt a.path b.path = true → M az (b :: bz) → M (a :: az) (b :: bz))
    (h4 : ∀ a az b bz, blt a.path b.path = false → blt b.path a.path = true → M (a :: az) bz → M (a :: az) (b :: bz))
    (h5 : ∀ a az b bz, blt a.path b.path = false → blt b.path a.path = false → M az bz → M (a :: az) (b :: bz)) : ∀ n a b, a.length + b.length ≤ n → M a b := by
  intro n
  induction n with
  | zero =>
    intro a b h
    cases a with
    | nil => cases b with
      | nil => exact h0
      | cons => simp at h
    | cons => simp at h
  | succ n ih =>
    intro a b h
    cases a with
    | nil => cases b with
      | nil => exact h0
      | cons b bz => exact h2 _ _ (ih _ _ (by simp at h ⊢; omega))
    | cons a az => cases b with
      | nil => exact h1 _ _ (ih _ _ (by simp at h ⊢; omega))
      | cons b bz =>
        cases k1 : blt a.path b.path with
        | true => exact h3 _ _ _ _ k1 (ih _ _ (by simp at h ⊢; omega))
        | false =>
          cases k2 : blt b.path a.path with
          | true => exact h4 _ _ _ _ k1 k2 (ih _ _ (by simp at h ⊢; omega))
          | false => exact h5 _ _ _ _ k1 k2 (ih _ _ (by simp at h ⊢; omega))
theorem cntK_nil (k : Int) : cntK k [] = 0 := rfl
theorem cntK_cons (k : Int) (c : Ch) (L : List Ch) : cntK k (c :: L) = (if c.kind = k then 1 else 0) + cntK k L := by
  unfold cntK
  by_cases h : c.kind = k
  · simp [List.filter_cons, h]; omega
  · simp [List.filter_cons, h]
def SwapOk (a b : List It) : Prop := cntK 1 (chg a b) = cntK 2 (chg b a) ∧ cntK 2 (chg a b) = cntK 1 (chg b a) ∧ cntK 3 (chg a b) = cntK 3 (chg b a) ∧ (chg a b).length = (chg b a).length
theorem chg_swap (a b : List It) : SwapOk a b := by
  refine chg_ind (M := SwapOk) ?_ ?_ ?_ ?_ ?_ ?_ _ a b (Nat.le_refl _)
  · simp [SwapOk, chg_nil, cntK_nil]
  · rintro a az ⟨e1, e2, e3, e4⟩
    simp [SwapOk, chg_left, chg_right, cntK_cons, e1, e2, e3, e4]
  · rintro a az ⟨e1, e2, e3, e4⟩
    simp [SwapOk, chg_left, chg_right, cntK_cons, e1, e2, e3, e4]
  · rintro a az b bz h ⟨e1, e2, e3, e4⟩
    simp [SwapOk, chg_lt _ _ h, chg_gt _ _ (blt_asym h) h, cntK_cons, e1, e2, e3, e4]
  · rintro a az b bz h h' ⟨e1, e2, e3, e4⟩
    simp [SwapOk, chg_lt _ _ h', chg_gt _ _ h h', cntK_cons, e1, e2, e3, e4]
  · rintro a az b bz h h' ⟨e1, e2, e3, e4⟩
    by_cases hd : a.dir = b.dir
    · cases he : eqb a b with
      | true =>
        have he' : eqb b a = true := eqb_true.2 (eqb_true.1 he).symm
        simp [SwapOk, chg_same _ _ h h' hd he, chg_same _ _ h' h hd.symm he', e1, e2, e3, e4]
      | false =>
        have he' : eqb b a = false := eqb_false.2 (fun q => eqb_false.1 he q.symm)
        simp [SwapOk, chg_other _ _ h h' hd he, chg_other _ _ h' h hd.symm he', cntK_cons, e1, e2, e3, e4]
    · have hd' : ¬ b.dir = a.dir := fun q => hd q.symm
      simp [SwapOk, chg_two _ _ h h' hd, chg_two _ _ h' h hd', cntK_cons, e1, e2, e3, e4]
theorem chg_new (b : List It) : chg [] b = b.map (fun x => ⟨1, x⟩) := by
  induction b with
  | nil => exact chg_nil
  | cons b bz ih => rw [chg_right, ih]; rfl
theorem chg_gone (b : List It) : chg b [] = b.map (fun x => ⟨2, x⟩) := by
  induction b with
  | nil => exact chg_nil
  | cons b bz ih => rw [chg_left, ih]; rfl
theorem cntK_map (k : Int) (b : List It) : cntK k (b.map (fun x => ⟨k, x⟩)) = b.length := by
  induction b with
  | nil => rfl
  | cons b bz ih => rw [List.map_cons, cntK_cons, ih]; simp; omega
theorem treeOk_nil : treeOk [] = true := treeOk_iff.2 ⟨by simp, fun k x h => by simp at h⟩
theorem chgOf_new {b : List It} (h : treeOk b = true) : chgOf [] b = some (b.map (fun x => ⟨1, x⟩)) := by
  rw [chgOf, if_pos ⟨treeOk_nil, h⟩, chg_new]
theorem chgOf_gone {b : List It} (h : treeOk b = true) : chgOf b [] = some (b.map (fun x => ⟨2, x⟩)) := by
  rw [chgOf, if_pos ⟨h, treeOk_nil⟩, chg_gone]
theorem chg_self (a : List It) : chg a a = [] := by
  induction a with
  | nil => exact chg_nil
  | cons a az ih => rw [chg_same az az (blt_irrefl _) (blt_irrefl _) rfl (eqb_true.2 rfl), ih]
theorem chg_eq_nil (a b : List It) : chg a b = [] → a = b := by
  refine chg_ind (M := fun a b => chg a b = [] → a = b) ?_ ?_ ?_ ?_ ?_ ?_ _ a b (Nat.le_refl _)
  · intro _; rfl
  · intro a az _ h; rw [chg_left] at h; cases h
  · intro a az _ h; rw [chg_right] at h; cases h
  · intro a az b bz h _ k; rw [chg_lt _ _ h] at k; cases k
  · intro a az b bz h h' _ k; rw [chg_gt _ _ h h'] at k; cases k
  · intro a az b bz h h' ih k
    by_cases hd : a.dir = b.dir
    · cases he : eqb a b with
      | true =>
        rw [chg_same _ _ h h' hd he] at k
        rw [eqb_true.1 he, ih k]
      | false => rw [chg_other _ _ h h' hd he] at k; cases k
    · rw [chg_two _ _ h h' hd] at k; cases k
theorem chg_nil_iff {a b : List It} : chg a b = [] ↔ a = b := ⟨chg_eq_nil a b, by rintro rfl; exact chg_self a⟩
theorem chgOf_some {a b : List It} {L : List Ch} (h : chgOf a b = some L) : treeOk a = true ∧ treeOk b = true ∧ L = chg a b := by
  unfold chgOf at h
  split at h
  · rename_i k; exact ⟨k.1, k.2, (Option.some.inj h).symm⟩
  · cases h
theorem chgOf_of {a b : List It} (h : treeOk a = true) (k : treeOk b = true) : chgOf a b = some (chg a b) := by rw [chgOf, if_pos ⟨h, k⟩]
/-- what a change says of the two trees -/
def ChSays (a b : List It) (c : Ch) : Prop :=
  (c.kind = 1 ∧ c.item ∈ b) ∨ (c.kind = 2 ∧ c.item ∈ a) ∨ (c.kind = 3 ∧ c.item ∈ b ∧ ∃ x, x ∈ a ∧ x.path = c.item.path ∧ x.dir = c.item.dir ∧ x ≠ c.item)
theorem ChSays.mono {a b a' b' : List It} {c : Ch} (h : ChSays a b c) (ha : ∀ x, x ∈ a → x ∈ a') (hb : ∀ x, x ∈ b → x ∈ b') : ChSays a' b' c := by
  rcases h with ⟨k, h⟩ | ⟨k, h⟩ | ⟨k, h, x, hx, e⟩
  · exact .inl ⟨k, hb _ h⟩
  · exact .inr (.inl ⟨k, ha _ h⟩)
  · exact .inr (.inr ⟨k, hb _ h, x, ha _ hx, e⟩)
theorem chg_says (a b : List It) : ∀ c, c ∈ chg a b → ChSays a b c := by
  have tl : ∀ (x : It) (l : List It) y, y ∈ l → y ∈ x :: l := fun x l y h => List.mem_cons_of_mem _ h
  have id' : ∀ (l : List It) y, y ∈ l → y ∈ l := fun l y h => h
  refine chg_ind (M := fun a b => ∀ c, c ∈ chg a b → ChSays a b c) ?_ ?_ ?_ ?_ ?_ ?_ _ a b (Nat.le_refl _)
  · intro c h; rw [chg_nil] at h; cases h
  · intro a az ih c h
    rw [chg_left] at h
    rcases List.mem_cons.1 h with rfl | h
    · exact .inr (.inl ⟨rfl, List.mem_cons_self⟩)
    · exact (ih c h).mono (tl _ _) (id' _)
  · intro b bz ih c h
    rw [chg_right] at h
    rcases List.mem_cons.1 h with rfl | h
    · exact .inl ⟨rfl, List.mem_cons_self⟩
    · exact (ih c h).mono (id' _) (tl _ _)
  · intro a az b bz k ih c h
    rw [chg_lt _ _ k] at h
    rcases List.mem_cons.1 h with rfl | h
    · exact .inr (.inl ⟨rfl, List.mem_cons_self⟩)
    · exact (ih c h).mono (tl _ _) (id' _)
  · intro a az b bz k k' ih c h
    rw [chg_gt _ _ k k'] at h
    rcases List.mem_cons.1 h with rfl | h
    · exact .inl ⟨rfl, List.mem_cons_self⟩
    · exact (ih c h).mono (id' _) (tl _ _)
  · intro a az b bz k k' ih c h
    have hp : a.path = b.path := blt_total k k'
    by_cases hd : a.dir = b.dir
    · cases he : eqb a b with
      | true => rw [chg_same _ _ k k' hd he] at h; exact (ih c h).mono (tl _ _) (tl _ _)
      | false =>
        rw [chg_other _ _ k k' hd he] at h
        rcases List.mem_cons.1 h with rfl | h
        · exact .inr (.inr ⟨rfl, List.mem_cons_self, a, List.mem_cons_self, hp, hd, eqb_false.1 he⟩)
        · exact (ih c h).mono (tl _ _) (tl _ _)
    · rw [chg_two _ _ k k' hd] at h
      rcases List.mem_cons.1 h with rfl | h
      · exact .inr (.inl ⟨rfl, List.mem_cons_self⟩)
      · rcases List.mem_cons.1 h with rfl | h
        · exact .inl ⟨rfl, List.mem_cons_self⟩
        · exact (ih c h).mono (tl _ _) (tl _ _)
theorem kindsOk_chg (a b : List It) : kindsOk (chg a b) := by
  intro c h
  rcases chg_says a b c h with h | h | h
  · exact .inl h.1
  · exact .inr (.inl h.1)
  · exact .inr (.inr h.1)
theorem kindsOk_of {a b : List It} {L : List Ch} (h : chgOf a b = some L) : kindsOk L := by
  rw [(chgOf_some h).2.2]; exact kindsOk_chg a b
theorem kindsOk_getD (a b : List It) : kindsOk ((chgOf a b).getD []) := by
  cases h : chgOf a b with
  | none => intro c hc; cases hc
  | some L => exact kindsOk_of h
theorem chgOf_swap_isSome (a b : List It) : (chgOf b a).isSome = (chgOf a b).isSome := by
  unfold chgOf
  by_cases h : treeOk a = true <;> by_cases k : treeOk b = true <;> simp [h, k]
end Go.Sf
