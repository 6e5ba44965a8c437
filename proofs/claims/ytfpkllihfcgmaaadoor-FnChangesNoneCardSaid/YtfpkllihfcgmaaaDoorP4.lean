/- Plain facts on trees: a tree that grew item by item is listed in its own order; validity is growth. -/
import Derived.Test.YtfpkllihfcgmaaaDoorP3
namespace Go.Sf
open Go
theorem flatMap_congr' {α β : Type} {l : List α} {f g : α → List β} (h : ∀ a, a ∈ l → f a = g a) : l.flatMap f = l.flatMap g := by
  induction l with
  | nil => rfl
  | cons a l ih => rw [List.flatMap_cons, List.flatMap_cons, h a (by simp), ih fun b hb => h b (by simp [hb])]
theorem not_prefix_long {α : Type} {a b : List α} (h : b.length < a.length) : ¬ a <+: b := fun hp => by have := hp.length_le; omega
theorem key_path_eq (x : It) : bl x.path = startOf (key x).dropLast ++ (key x).getLast (key_ne x) := by
  rw [← key_join x]
  conv => lhs; rw [key_last (x := x)]
  rw [joinS_start]
theorem joinS_app (a b : List (List UInt8)) (ha : a ≠ []) (hb : b ≠ []) : joinS (a ++ b) = joinS a ++ 47 :: joinS b := by
  induction a with
  | nil => exact absurd rfl ha
  | cons x r ih =>
    cases r with
    | nil => rw [List.singleton_append, joinS_cons hb]; rfl
    | cons y r => rw [List.cons_append, joinS_cons (a := x) (by simp), ih (by simp), joinS_cons (a := x) (r := y :: r) (by simp)]; simp
/-- what is within an item comes ahead of the item's later siblings -/
theorem lt_within {a c x : It} (hc : pathOk c.path = true) (hs : (key a).dropLast = (key c).dropLast) (h : lt8 (bl a.path) (bl c.path) = true) (hp : key a <+: (key x).dropLast) : lt8 (bl x.path) (bl c.path) = true := by
  obtain ⟨r, hr⟩ := hp
  have e1 : key x = key a ++ (r ++ [(key x).getLast (key_ne x)]) := by rw [← List.append_assoc, hr, ← key_last]
  have e2 : bl x.path = bl a.path ++ 47 :: joinS (r ++ [(key x).getLast (key_ne x)]) := by
    rw [← key_join x, ← key_join a]
    conv => lhs; rw [e1]
    exact joinS_app _ _ (key_ne a) (by simp)
  have hl : ((key c).getLast (key_ne c)).all low = true := by
    have := (key_ok hc).1
    rw [List.all_eq_true] at this
    exact wordOk_low (this _ (List.getLast_mem _))
  rw [e2]
  rw [key_path_eq a, key_path_eq c, hs, lt8_append] at h
  rw [key_path_eq a, key_path_eq c, hs, List.append_assoc, lt8_append]
  exact lt8_within _ _ _ hl h
theorem flat_snoc {l : List It} {x : It} (hg : Grow l) (hx : Fits l x) : ∀ n k, 4 ≤ k.length + n → isKey l k →
    flat (l ++ [x]) n k = if k <+: (key x).dropLast then flat l n k ++ [x] else flat l n k := by
  have hxp := itemOk_path hx.1
  have hx4 := (key_ok hxp).2
  have hd : (key x).dropLast.length + 1 = (key x).length := by
    have := congrArg List.length (key_last (x := x)); simp only [List.length_append, List.length_singleton] at this; omega
  intro n
  induction n with
  | zero =>
    intro k hk _
    rw [if_neg (not_prefix_long (by omega))]; rfl
  | succ n ih =>
    intro k hk hkey
    have hkid : ∀ c, c ∈ kidsOf l k → (key c).length = k.length + 1 ∧ k <+: key c := fun c hc => by
      have h := (mem_kids.1 hc).2
      have e := key_last (x := c)
      rw [h] at e
      exact ⟨by rw [e]; simp, by rw [e]; exact List.prefix_append _ _⟩
    have hih : ∀ c, c ∈ kidsOf l k → flat (l ++ [x]) n (key c) = if key c <+: (key x).dropLast then flat l n (key c) ++ [x] else flat l n (key c) := fun c hc =>
      ih (key c) (by have := (hkid c hc).1; omega) (.inr ⟨c, (mem_kids.1 hc).1, rfl⟩)
    have hsame : (∀ c, c ∈ kidsOf l k → ¬ key c <+: (key x).dropLast) → (kidsOf l k).flatMap (fun c => c :: flat (l ++ [x]) n (key c)) = flat l (n + 1) k := fun h => by
      rw [flat]
      refine flatMap_congr' fun c hc => ?_
      rw [hih c hc, if_neg (h c hc)]
    rw [flat, kidsOf_append]
    by_cases hA : (key x).dropLast = k
    · rw [if_pos hA, if_pos (by rw [hA]; exact List.prefix_refl _), List.flatMap_append, hsame fun c hc => by rw [hA]; exact not_prefix_long (by have := (hkid c hc).1; omega)]
      congr 1
      rw [List.flatMap_singleton]
      rw [flat_none]
      intro y hy e
      rw [List.mem_append, List.mem_singleton] at hy
      rcases hy with hy | rfl
      · rcases (hg.fits hy).2 with h | ⟨z, hz, h, -⟩
        · rw [e] at h; exact key_ne x h
        · rw [e] at h
          have := hx.2.1 z hz
          rw [key_path h, lt8_irrefl] at this; cases this
      · have := congrArg List.length e; omega
    · rw [if_neg hA, List.append_nil]
      by_cases hB : k <+: (key x).dropLast
      · rw [if_pos hB]
        obtain ⟨r, hr⟩ := hB
        have hrne : r ≠ [] := by rintro rfl; rw [List.append_nil] at hr; exact hA hr.symm
        obtain ⟨m, r', rfl⟩ := List.exists_cons_of_ne_nil hrne
        have hxk : isKey l (key x).dropLast := hx.2.2.imp_right fun ⟨z, hz, h, _⟩ => ⟨z, hz, h⟩
        have hpre : k ++ [m] <+: (key x).dropLast := ⟨r', by rw [← hr]; simp⟩
        obtain h0 | ⟨a, ha, hak⟩ := hg.prefix_ _ hxk _ hpre
        · simp at h0
        have hak' : a ∈ kidsOf l k := mem_kids.2 ⟨ha, by rw [hak]; simp⟩
        obtain ⟨i, hi⟩ := List.mem_iff_getElem?.1 hak'
        -- a is the last of the kids
        have hlast : ∀ c, c ∈ kidsOf l k → c ≠ a → lt8 (bl c.path) (bl a.path) = true := fun c hc hne => by
          cases h1 : lt8 (bl c.path) (bl a.path) with
          | true => rfl
          | false =>
            cases h2 : lt8 (bl a.path) (bl c.path) with
            | true =>
              have hcl := (mem_kids.1 hc).1
              have := lt_within (x := x) (itemOk_path (hg.fits hcl).1) (by rw [hak, (mem_kids.1 hc).2]; simp) h2 (by rw [hak]; exact hpre)
              have h3 := hx.2.1 c hcl
              rw [lt8_asymm h3] at this; cases this
            | false => exact absurd (hg.inj (mem_kids.1 hc).1 ha (bl_inj (lt8_total _ _ h1 h2))) hne
        have hsub : ∀ {L : List It}, L.Sublist l → L.Pairwise fun x y => lt8 (bl x.path) (bl y.path) = true := fun {L} hL => by
          refine List.Pairwise.sublist hL ?_
          rw [List.pairwise_iff_getElem]
          intro i j hi hj hij
          exact hg.lt (List.getElem?_eq_getElem hi) (List.getElem?_eq_getElem hj) hij
        obtain ⟨L1, L2, hL⟩ := List.append_of_mem hak'
        have hpw := hsub (List.filter_sublist (p := kin k) (l := l))
        change (kidsOf l k).Pairwise _ at hpw
        rw [hL] at hpw
        have hL2 : L2 = [] := by
          cases L2 with
          | nil => rfl
          | cons c L2 =>
            rw [List.pairwise_append] at hpw
            have h1 := (List.pairwise_cons.1 hpw.2.1).1 c (by simp)
            have h2 := hlast c (by rw [hL]; simp) (by rintro rfl; rw [lt8_irrefl] at h1; cases h1)
            rw [lt8_asymm h1] at h2; cases h2
        subst hL2
        have h1 : ∀ c, c ∈ L1 → ¬ key c <+: (key x).dropLast := fun c hc hp => by
          have hck : c ∈ kidsOf l k := by rw [hL]; simp [hc]
          have hlen : (key c).length = (k ++ [m]).length := by rw [(hkid c hck).1]; simp
          have e : key c = key a := by rw [hak]; exact (List.prefix_of_prefix_length_le hp hpre (by omega)).eq_of_length hlen
          have := (List.pairwise_append.1 hpw).2.2 c hc a (by simp)
          rw [key_path e, lt8_irrefl] at this; cases this
        rw [flat, hL, List.flatMap_append, List.flatMap_append, List.flatMap_singleton, List.flatMap_singleton, hih a hak', if_pos (by rw [hak]; exact hpre)]
        rw [← List.cons_append, ← List.append_assoc]
        congr 2
        refine flatMap_congr' fun c hc => ?_
        rw [hih c (by rw [hL]; simp [hc]), if_neg (h1 c hc)]
      · rw [if_neg hB]
        exact hsame fun c hc hp => hB ((hkid c hc).2.trans hp)
theorem flat_list : ∀ l, Grow l → flat l 4 [] = l := by
  refine grow_ind ?_ ?_
  · rfl
  · intro l x hg hx ih
    rw [flat_snoc hg hx 4 [] (by simp) (.inl rfl), if_pos (List.nil_prefix), ih]
end Go.Sf
