/- Changes made in a tree, plain. -/
import Derived.Test.YtbdgpbakhjpklaaGreatDoorP12
namespace Go.Sf
def awP (x y : It) : Bool := !eqb y.path x.path
theorem mem_putIt {x z : It} : ∀ {l : List It}, Srt l → (z ∈ putIt x l ↔ z = x ∨ (z ∈ l ∧ z.path ≠ x.path)) := by
  intro l
  induction l with
  | nil => intro _; simp [putIt]
  | cons y r ih =>
    intro h
    have h' := List.pairwise_cons.1 h
    rw [putIt]
    split
    case isTrue hb =>
      rw [List.mem_cons, ih h'.2, List.mem_cons]
      have hy : y.path ≠ x.path := fun e => by rw [e, blt_irr] at hb; cases hb
      constructor
      · rintro (rfl | rfl | ⟨h1, h2⟩)
        · exact .inr ⟨.inl rfl, hy⟩
        · exact .inl rfl
        · exact .inr ⟨.inr h1, h2⟩
      · rintro (rfl | ⟨rfl | h1, h2⟩)
        · exact .inr (.inl rfl)
        · exact .inl rfl
        · exact .inr (.inr ⟨h1, h2⟩)
    case isFalse hb =>
      rw [List.mem_cons, List.mem_filter]
      constructor
      · rintro (rfl | ⟨h1, h2⟩)
        · exact .inl rfl
        · exact .inr ⟨h1, eqb_false.1 (by simpa using h2)⟩
      · rintro (rfl | ⟨h1, h2⟩)
        · exact .inl rfl
        · exact .inr ⟨h1, by rw [eqb_false.2 h2]; rfl⟩
theorem putIt_srt' {x : It} : ∀ {l : List It}, Srt l → Srt (putIt x l) := by
  intro l
  induction l with
  | nil => intro _; exact List.pairwise_singleton _ _
  | cons y r ih =>
    intro h
    have h' := List.pairwise_cons.1 h
    rw [putIt]
    split
    case isTrue hb =>
      refine List.pairwise_cons.2 ⟨fun z hz => ?_, ih h'.2⟩
      rcases (mem_putIt h'.2).1 hz with rfl | ⟨hz, -⟩
      · exact hb
      · exact h'.1 z hz
    case isFalse hb =>
      refine List.pairwise_cons.2 ⟨fun z hz => ?_, List.Pairwise.filter _ h⟩
      obtain ⟨hz, hne⟩ := List.mem_filter.1 hz
      have hne := eqb_false.1 (show eqb z.path x.path = false by simpa using hne)
      have hzx : blt z.path x.path = false := by
        cases hc : blt z.path x.path with
        | false => rfl
        | true =>
          rcases List.mem_cons.1 hz with rfl | hz
          · exact absurd hc hb
          · exact absurd (blt_tr (h'.1 z hz) hc) hb
      cases hc : blt x.path z.path with
      | true => rfl
      | false => exact absurd (blt_tot hzx hc) hne
theorem find_iff {l : List It} (h : Srt l) {p : ByteArray} {y : It} : findIt l p = some y ↔ y ∈ l ∧ y.path = p := by
  constructor
  · exact findIt_some
  · rintro ⟨h1, h2⟩
    cases hf : findIt l p with
    | none => exact absurd h2 (findIt_none hf y h1)
    | some z =>
      obtain ⟨k1, k2⟩ := findIt_some hf
      rw [h.inj k1 h1 (k2.trans h2.symm)]
theorem find_put {x : It} {l : List It} (h : Srt l) (p : ByteArray) : findIt (putIt x l) p = if p = x.path then some x else findIt l p := by
  apply Option.ext
  intro y
  rw [find_iff (putIt_srt' h), mem_putIt h]
  split
  case isTrue e =>
    subst e
    constructor
    · rintro ⟨rfl | ⟨-, hn⟩, e⟩
      · rfl
      · exact absurd e hn
    · intro e; cases e; exact ⟨.inl rfl, rfl⟩
  case isFalse e =>
    rw [find_iff h]
    constructor
    · rintro ⟨rfl | ⟨h1, -⟩, h2⟩
      · exact absurd h2.symm e
      · exact ⟨h1, h2⟩
    · rintro ⟨h1, h2⟩
      exact ⟨.inr ⟨h1, fun q => e (h2.symm.trans q)⟩, h2⟩
theorem find_drop {x : It} {l : List It} (h : Srt l) (p : ByteArray) : findIt (l.filter (awP x)) p = if p = x.path then none else findIt l p := by
  apply Option.ext
  intro y
  rw [find_iff (List.Pairwise.filter _ h), List.mem_filter]
  split
  case isTrue e =>
    subst e
    constructor
    · rintro ⟨⟨-, hn⟩, e⟩
      exact absurd e (eqb_false.1 (by simpa [awP] using hn))
    · intro e; cases e
  case isFalse e =>
    rw [find_iff h]
    constructor
    · rintro ⟨⟨h1, -⟩, h2⟩; exact ⟨h1, h2⟩
    · rintro ⟨h1, h2⟩
      exact ⟨⟨h1, by rw [awP, eqb_false.2 fun q => e (h2.symm.trans q)]; rfl⟩, h2⟩
theorem putIt_length {x : It} : ∀ l : List It, (putIt x l).length ≤ l.length + 1 := by
  intro l
  induction l with
  | nil => simp [putIt]
  | cons y r ih =>
    rw [putIt]
    split
    · simp; omega
    · have := List.length_filter_le (fun z => !eqb z.path x.path) (y :: r)
      simp at this ⊢; omega
/-- one change -/
noncomputable def stepOf (S : List It) (c : Ch) : Option (List It) :=
  if c.kind = 1 then (if (findIt S c.item.path).isSome = true then none else some (putIt c.item S))
  else if c.kind = 2 then (if findIt S c.item.path = some c.item then some (S.filter (awP c.item)) else none)
  else if c.kind = 3 then (if ∃ y, findIt S c.item.path = some y ∧ y.dir = false ∧ c.item.dir = false ∧ y.ids ≠ c.item.ids then some (putIt c.item S) else none)
  else none
noncomputable def runAll : List It → List Ch → Option (List It)
  | S, [] => some S
  | S, c :: r => if itemOk c.item = true then (stepOf S c).bind fun S' => runAll S' r else none
noncomputable def runOf (l : List It) (cs : List Ch) : Option (List It) := if treeOk l = true then (runAll l cs).bind fun o => if treeOk o = true then some o else none else none
theorem step_srt {S S' : List It} {c : Ch} (h : Srt S) (hs : stepOf S c = some S') : Srt S' ∧ S'.length ≤ S.length + 1 := by
  unfold stepOf at hs
  split at hs
  · split at hs
    · cases hs
    · cases hs; exact ⟨putIt_srt' h, putIt_length _⟩
  · split at hs
    · split at hs
      · cases hs; exact ⟨List.Pairwise.filter _ h, Nat.le_trans (List.length_filter_le _ _) (Nat.le_succ _)⟩
      · cases hs
    · split at hs
      · split at hs
        · cases hs; exact ⟨putIt_srt' h, putIt_length _⟩
        · cases hs
      · cases hs
theorem run_bad {S : List It} {c : Ch} {r : List Ch} (h : itemOk c.item = false) : runAll S (c :: r) = none := by rw [runAll, if_neg (by simp [h])]
theorem run_none {S : List It} {c : Ch} {r : List Ch} (h : stepOf S c = none) : runAll S (c :: r) = none := by rw [runAll, h]; split <;> rfl
theorem run_step {S S' : List It} {c : Ch} {r : List Ch} (h : itemOk c.item = true) (hs : stepOf S c = some S') : runAll S (c :: r) = runAll S' r := by rw [runAll, if_pos h, hs]; rfl
end Go.Sf
