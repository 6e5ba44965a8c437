/- Blocks put into stores, files written: plain. -/
import Derived.Test.YtoljibhdakacjaaGreatDoorGY
import Derived.Test.YtoljibhdakacjaaGreatDoorHC
import Derived.Test.YtoljibhdakacjaaGreatDoorHK
namespace Go.Sf
open Go Go.RowKit
theorem findH_cons (y : Hd) (r : List Hd) (i : Int) : findH (y :: r) i = if i = y.id then some y else findH r i := by
  unfold findH
  by_cases h : i = y.id
  · subst h
    rw [if_pos rfl, List.find?_cons_of_pos (by simp [idIs, eqb_true])]
  · rw [if_neg h, List.find?_cons_of_neg (by simp only [idIs]; rw [eqb_false.2 fun e => h e.symm]; simp)]
theorem nofind {l : List Hd} {i : Int} (h : findH l i = none) : ∀ y, y ∈ l → y.id ≠ i := fun y hy e => by
  exact List.find?_eq_none.1 h y hy (eqb_true.2 e)
theorem nofind' {l : List Hd} {i : Int} (h : ∀ y, y ∈ l → y.id ≠ i) : findH l i = none := List.find?_eq_none.2 fun y hy => by
  simp only [idIs]; rw [eqb_false.2 (h y hy)]; simp
theorem hdOk_more {y : Hd} (h : hdOk y = true) (h1 : y.uses < 999) : hdOk (moreOne y) = true := by
  obtain ⟨a, b, c, d⟩ := hd_ok h
  simp only [hdOk, Bool.and_eq_true] at h ⊢
  refine ⟨h.1, h.2.1, ?_⟩
  have e : (moreOne y).uses = y.uses + 1 := rfl
  rw [e]
  simp [inB]
  omega
theorem more_ok {l : List Hd} (h : StoreOk l) {k : Nat} {y : Hd} (hy : l[k]? = some y) (hu : y.uses < 999) : StoreOk (l.set k (moreOne y)) := by
  rw [storeOk_set] at h ⊢
  obtain ⟨h1, h2, h3⟩ := h
  refine ⟨by simpa using h1, fun x hx => ?_, ?_⟩
  · rcases List.mem_or_eq_of_mem_set hx with hx | rfl
    · exact h2 x hx
    · exact hdOk_more (h2 y (List.mem_of_getElem? hy)) hu
  · rw [set_split hy]
    rw [split_at hy] at h3
    rw [List.pairwise_append, List.pairwise_cons] at h3 ⊢
    obtain ⟨p1, ⟨p2, p3⟩, p4⟩ := h3
    refine ⟨p1, ⟨fun b hb => p2 b hb, p3⟩, fun a ha b hb => ?_⟩
    rcases List.mem_cons.1 hb with rfl | hb
    · exact p4 a ha y (by simp)
    · exact p4 a ha b (by simp [hb])
theorem more_bad {l : List Hd} {k : Nat} {y : Hd} (hy : l[k]? = some y) (hu : 999 ≤ y.uses) : ¬ StoreOk (l.set k (moreOne y)) := fun h => by
  have h1 : (l.set k (moreOne y))[k]? = some (moreOne y) := List.getElem?_set_self (lt_of_get hy)
  have := hd_ok (h.2 k _ h1).1
  have e : (moreOne y).uses = y.uses + 1 := rfl
  omega
theorem find_more {l : List Hd} (h : StoreOk l) {k : Nat} {y : Hd} (hy : l[k]? = some y) (i : Int) : findH (l.set k (moreOne y)) i = if i = y.id then some (moreOne y) else findH l i := by
  have h3 := (storeOk_set.1 h).2.2
  rw [split_at hy, List.pairwise_append, List.pairwise_cons] at h3
  obtain ⟨-, ⟨-, -⟩, p4⟩ := h3
  have e1 : findH (l.take k) y.id = none := nofind' fun x hx => by
    have := (p4 x hx y (by simp)).1
    omega
  rw [set_split hy]
  by_cases hi : i = y.id
  · subst hi
    rw [if_pos rfl]
    unfold findH at *
    rw [List.find?_append, e1, List.find?_cons_of_pos (by simp [idIs, moreOne, eqb_true])]; rfl
  · rw [if_neg hi]
    have hn : idIs i y = false := eqb_false.2 fun e => hi e.symm
    conv => rhs; rw [split_at hy]
    unfold findH
    rw [List.find?_append, List.find?_append, List.find?_cons_of_neg (fun hh => by have h9 : idIs i y = true := hh; rw [hn] at h9; cases h9), List.find?_cons_of_neg (by simp [hn])]
theorem mem_with {x z : Hd} : ∀ {l : List Hd}, z ∈ withHd x l ↔ z = x ∨ z ∈ l := by
  intro l
  induction l with
  | nil => simp [withHd]
  | cons y r ih =>
    unfold withHd
    split
    · simp
    · rw [List.mem_cons, ih, List.mem_cons]
      constructor
      · rintro (h | h | h)
        · exact .inr (.inl h)
        · exact .inl h
        · exact .inr (.inr h)
      · rintro (h | h | h)
        · exact .inr (.inl h)
        · exact .inl h
        · exact .inr (.inr h)
theorem find_with {x : Hd} : ∀ {l : List Hd}, findH l x.id = none → ∀ i, findH (withHd x l) i = if i = x.id then some x else findH l i := by
  intro l
  induction l with
  | nil => intro _ i; unfold withHd; rw [findH_cons]
  | cons y r ih =>
    intro h i
    have hy : y.id ≠ x.id := nofind h y List.mem_cons_self
    have hr : findH r x.id = none := nofind' fun z hz => nofind h z (List.mem_cons_of_mem _ hz)
    unfold withHd
    split
    · rw [findH_cons]
    · rw [findH_cons, ih hr, findH_cons]
      by_cases h1 : i = y.id
      · rw [if_pos h1, if_pos h1, if_neg (by rw [h1]; exact hy)]
      · rw [if_neg h1, if_neg h1]
theorem with_pair {x : Hd} : ∀ {l : List Hd}, (l.Pairwise fun a b => a.id < b.id ∧ a.bytes ≠ b.bytes) → (∀ y, y ∈ l → y.id ≠ x.id ∧ y.bytes ≠ x.bytes) → (withHd x l).Pairwise fun a b => a.id < b.id ∧ a.bytes ≠ b.bytes := by
  intro l
  induction l with
  | nil => intro _ _; simp [withHd]
  | cons y r ih =>
    intro h hn
    obtain ⟨h1, h2⟩ := List.pairwise_cons.1 h
    have hy := hn y List.mem_cons_self
    unfold withHd
    split
    · next hlt =>
      refine List.pairwise_cons.2 ⟨fun z hz => ?_, h⟩
      have hz' := hn z hz
      rcases List.mem_cons.1 hz with rfl | hz
      · exact ⟨hlt, fun e => hz'.2 e.symm⟩
      · exact ⟨by have := (h1 z hz).1; omega, fun e => hz'.2 e.symm⟩
    · next hlt =>
      refine List.pairwise_cons.2 ⟨fun z hz => ?_, ih h2 fun z hz => hn z (List.mem_cons_of_mem _ hz)⟩
      rcases mem_with.1 hz with rfl | hz
      · exact ⟨by have := hy.1; omega, hy.2⟩
      · exact h1 z hz
theorem with_ok {l : List Hd} {x : Hd} (h : StoreOk l) (hx : hdOk x = true) (hn : findH l x.id = none) (hb : ∀ y, y ∈ l → y.bytes ≠ x.bytes) (hl : l.length < 16) : StoreOk (withHd x l) := by
  rw [storeOk_set] at h ⊢
  obtain ⟨-, h2, h3⟩ := h
  refine ⟨by rw [withHd_len]; omega, fun z hz => ?_, with_pair h3 fun y hy => ⟨nofind hn y hy, hb y hy⟩⟩
  rcases mem_with.1 hz with rfl | hz
  · exact hx
  · exact h2 z hz
/-! ### the least free id -/
theorem hAt_none {l : List Hd} {i : Int} (h : ¬ 0 ≤ hAt l i) : findH l i = none := by
  rcases atG_find (idIs i) l 0 with ⟨h1, -⟩ | ⟨k, y, -, -, -, h4, -⟩
  · exact List.find?_eq_none.2 fun x hx => List.find?_eq_none.1 h1 x hx
  · rw [hAt, h4] at h; omega
theorem freeGo_none {l : List Hd} (h : StoreOk l) : ∀ (n : Nat) (i : Int), i + n = 101 → ¬ 0 ≤ hAt l (freeGo l n i) := by
  intro n
  induction n with
  | zero =>
    intro i hi hc
    have := hAt_high h hc
    simp only [freeGo] at this
    omega
  | succ n ih =>
    intro i hi
    unfold freeGo
    split
    · exact ih (i + 1) (by omega)
    · next hc => exact hc
theorem free_none {l : List Hd} (h : StoreOk l) : findH l (freeId l) = none := hAt_none (freeGo_none h 100 1 (by omega))
theorem freeGo_low {l : List Hd} : ∀ (n : Nat) (i : Int), i ≤ freeGo l n i ∧ ∀ j, i ≤ j → j < freeGo l n i → 0 ≤ hAt l j := by
  intro n
  induction n with
  | zero => intro i; simp only [freeGo]; exact ⟨Int.le_refl _, fun j h1 h2 => by omega⟩
  | succ n ih =>
    intro i
    unfold freeGo
    split
    · next hc =>
      obtain ⟨h1, h2⟩ := ih (i + 1)
      refine ⟨by omega, fun j h3 h4 => ?_⟩
      by_cases e : j = i
      · subst e; exact hc
      · exact h2 j (by omega) h4
    · exact ⟨Int.le_refl _, fun j h1 h2 => by omega⟩
theorem cntI_one {i : Int} : ∀ {L : List Int}, L.Pairwise (fun a b => a ≠ b) → cntI i L ≤ 1 := by
  intro L
  induction L with
  | nil => intro _; simp [cntI]
  | cons j r ih =>
    intro h
    obtain ⟨h1, h2⟩ := List.pairwise_cons.1 h
    have := ih h2
    rw [cntI_cons]
    split
    · next e =>
      rcases Nat.lt_or_ge (cntI i r) 1 with hz | hz
      · omega
      · exact absurd e (h1 i (cntI_mem hz))
    · omega
theorem sum_le9 {α : Type} (f : α → Nat) (b : Nat) (l : List α) (h : ∀ x, x ∈ l → f x ≤ b) : (l.map f).sum ≤ l.length * b := by
  induction l with
  | nil => simp
  | cons x l ih =>
    have h1 := h x List.mem_cons_self
    have h2 := ih fun y hy => h y (List.mem_cons_of_mem _ hy)
    rw [List.map_cons, List.sum_cons, List.length_cons, Nat.add_mul, Nat.one_mul]
    omega
theorem free_17 {l : List Hd} (h : StoreOk l) : 1 ≤ freeId l ∧ freeId l ≤ 17 := by
  refine ⟨(freeId_range h).1, ?_⟩
  rcases Int.lt_or_le 17 (freeId l) with hc | hc
  · exfalso
    have hall : ∀ i, i ∈ ([1, 2, 3, 4, 5, 6, 7, 8, 9, 10, 11, 12, 13, 14, 15, 16, 17] : List Int) → ∃ x, x ∈ l ∧ x.id = i := fun i hi => by
      have hr : 1 ≤ i ∧ i ≤ 17 := by
        have : ∀ i ∈ ([1, 2, 3, 4, 5, 6, 7, 8, 9, 10, 11, 12, 13, 14, 15, 16, 17] : List Int), 1 ≤ i ∧ i ≤ 17 := by decide
        exact this i hi
      obtain ⟨x, hx, e⟩ := hAt_in ((freeGo_low (l := l) 100 1).2 i hr.1 (by unfold freeId at hc; omega))
      exact ⟨x, hx, e⟩
    have h1 := cnt_sum (ids_apart h) _ hall
    have h2 := sum_le9 (fun h : Hd => cntI h.id [1, 2, 3, 4, 5, 6, 7, 8, 9, 10, 11, 12, 13, 14, 15, 16, 17]) 1 l fun x _ => cntI_one (by decide)
    rw [h1] at h2
    have := h.1
    simp at h2
    omega
  · exact hc
/-! ### a block is put -/
theorem likeIs_iff {bs : List Int} {y : Hd} : likeIs bs y = true ↔ y.bytes = bs := by unfold likeIs; exact eqb_iff
theorem storePut_cases {l : List Hd} {bs : List Int} (hs : StoreOk l) (hb : blockOk bs = true) :
    (∃ k y, l[k]? = some y ∧ y.bytes = bs ∧ ((y.uses < 999 ∧ storePut l bs = some (l.set k (moreOne y), y.id)) ∨ (y.uses = 999 ∧ storePut l bs = none))) ∨
    ((∀ y, y ∈ l → y.bytes ≠ bs) ∧ ((l.length < 16 ∧ storePut l bs = some (withHd ⟨freeId l, bs, 1⟩ l, freeId l)) ∨ (16 ≤ l.length ∧ storePut l bs = none))) := by
  have hso := storeOk_iff.2 hs
  rcases atG_find (likeIs bs) l 0 with ⟨f1, -⟩ | ⟨i, y, f1, f2, f3, f4, -⟩
  · refine .inr ⟨fun y hy e => ?_, ?_⟩
    · exact absurd (likeIs_iff.2 e) (List.find?_eq_none.1 f1 y hy)
    have hne : ∀ y, y ∈ l → y.bytes ≠ bs := fun y hy e => absurd (likeIs_iff.2 e) (List.find?_eq_none.1 f1 y hy)
    have hps := putSt_none f1
    rcases Nat.lt_or_ge l.length 16 with h16 | h16
    · refine .inl ⟨h16, ?_⟩
      have h17 := free_17 hs
      have hok : StoreOk (withHd ⟨freeId l, bs, 1⟩ l) := with_ok hs (by
        simp only [hdOk, hb, inB, Bool.and_eq_true, decide_eq_true_eq, true_and]
        omega) (free_none hs) hne h16
      unfold storePut
      rw [if_pos ⟨hso, hb, by rw [hps]; exact storeOk_iff.2 hok⟩, hps]
    · refine .inr ⟨h16, ?_⟩
      unfold storePut
      rw [if_neg]
      rintro ⟨-, -, h⟩
      rw [hps] at h
      have := (storeOk_iff.1 h).1
      simp only [withHd_len] at this
      omega
  · have f2' := likeIs_iff.1 f2
    have hps := putSt_some (l := l) (bs := bs) f3 (by unfold likeAt; rw [f4, Nat.zero_add])
    refine .inl ⟨i, y, f1, f2', ?_⟩
    have hu := hd_ok (hs.2 i y f1).1
    rcases Int.lt_or_le y.uses 999 with h9 | h9
    · refine .inl ⟨h9, ?_⟩
      unfold storePut
      rw [if_pos ⟨hso, hb, by rw [hps]; exact storeOk_iff.2 (more_ok hs f1 h9)⟩, hps]
    · refine .inr ⟨by omega, ?_⟩
      unfold storePut
      rw [if_neg]
      rintro ⟨-, -, h⟩
      rw [hps] at h
      exact more_bad f1 h9 (storeOk_iff.1 h)
def usesO (l : List Hd) (i : Int) : Int := (findH l i).elim 0 (·.uses)
/-- what a put leaves, id by id -/
theorem put_find {l l' : List Hd} {bs : List Int} {id : Int} (h : storePut l bs = some (l', id)) : StoreOk l ∧ blockOk bs = true ∧ StoreOk l' ∧ (findH l id = none ∨ ∃ y, findH l id = some y ∧ y.bytes = bs) ∧
    ∀ i, findH l' i = if i = id then some ⟨id, bs, usesO l id + 1⟩ else findH l i := by
  have hc : storeOk l = true ∧ blockOk bs = true ∧ storeOk (putSt l bs).1 = true ∧ putSt l bs = (l', id) := by
    unfold storePut at h
    split at h
    · next hc => exact ⟨hc.1, hc.2.1, hc.2.2, Option.some.inj h⟩
    · cases h
  obtain ⟨h1, hb, h3, h4⟩ := hc
  have hs := storeOk_iff.1 h1
  refine ⟨hs, hb, by rw [h4] at h3; exact storeOk_iff.1 h3, ?_⟩
  rcases storePut_cases hs hb with ⟨k, y, hy, hyb, ⟨hu, hp⟩ | ⟨-, hp⟩⟩ | ⟨hne, ⟨hl, hp⟩ | ⟨-, hp⟩⟩
  · rw [hp] at h
    cases h
    have hf := hs.find hy
    refine ⟨.inr ⟨y, hf, hyb⟩, fun i => ?_⟩
    rw [find_more hs hy]
    by_cases e : i = y.id
    · rw [if_pos e, if_pos e]
      unfold usesO moreOne
      rw [hf, ← hyb]; rfl
    · rw [if_neg e, if_neg e]
  · rw [hp] at h; cases h
  · rw [hp] at h
    cases h
    have hf := free_none hs
    refine ⟨.inl hf, fun i => ?_⟩
    rw [find_with hf]
    by_cases e : i = freeId l
    · rw [if_pos e, if_pos e]
      unfold usesO
      rw [hf]; rfl
    · rw [if_neg e, if_neg e]
  · rw [hp] at h; cases h
/-- blocks put one behind the other -/
theorem putBs_find : ∀ (bl : List (List Int)) {l l' : List Hd} {ids : List Int}, StoreOk l → putBs l bl = some (l', ids) → StoreOk l' ∧ ids.length = bl.length ∧ (∀ i, usesO l' i = usesO l i + (cntI i ids : Int)) ∧
    (∀ i y, findH l i = some y → ∃ y', findH l' i = some y' ∧ y'.bytes = y.bytes) ∧ (∀ (k : Nat) (i : Int), ids[k]? = some i → ∃ y b, bl[k]? = some b ∧ findH l' i = some y ∧ y.bytes = b) ∧
    (∀ i y, findH l' i = some y → (∃ z, findH l i = some z) ∨ i ∈ ids) := by
  intro bl
  induction bl with
  | nil =>
    intro l l' ids hl h
    cases h
    exact ⟨hl, rfl, fun i => by simp [cntI], fun i y h => ⟨y, h, rfl⟩, fun k i h => by simp at h, fun i y h => .inl ⟨y, h⟩⟩
  | cons b r ih =>
    intro l l' ids hl h
    rw [putBs_step, Option.bind_eq_some_iff] at h
    obtain ⟨⟨l2, j⟩, h2, h⟩ := h
    rw [Option.map_eq_some_iff] at h
    obtain ⟨⟨l3, js⟩, h3, e⟩ := h
    cases e
    obtain ⟨-, -, hl2, hj, hf⟩ := put_find h2
    obtain ⟨g1, g2, g3, g4, g5, g6⟩ := ih hl2 h3
    refine ⟨g1, by simp [g2], fun i => ?_, fun i y hy => ?_, fun k i hk => ?_, fun i y hy => ?_⟩
    all_goals (try dsimp only at *)
    · rw [g3 i, cntI_cons]
      unfold usesO
      rw [hf i]
      by_cases e : i = j
      · subst e
        rw [if_pos rfl, if_pos rfl]
        simp only [Option.elim_some]
        unfold usesO
        omega
      · rw [if_neg e, if_neg fun q => e q.symm]
        omega
    · by_cases e : i = j
      · subst e
        obtain ⟨y', h1, h2'⟩ := g4 i _ (by rw [hf i, if_pos rfl])
        refine ⟨y', h1, ?_⟩
        rw [h2']
        rcases hj with hj | ⟨z, hz, hzb⟩
        · rw [hj] at hy; cases hy
        · rw [hz] at hy; cases hy; exact hzb.symm
      · exact g4 i y (by rw [hf i, if_neg e]; exact hy)
    · cases k with
      | zero =>
        simp only [List.getElem?_cons_zero, Option.some.injEq] at hk
        subst hk
        obtain ⟨y', h1, h2'⟩ := g4 j _ (by rw [hf j, if_pos rfl])
        exact ⟨y', b, rfl, h1, h2'⟩
      | succ k =>
        obtain ⟨y, b', q1, q2, q3⟩ := g5 k i (by simpa using hk)
        exact ⟨y, b', by simpa using q1, q2, q3⟩
    · rcases g6 i y hy with ⟨z, hz⟩ | hm
      · rw [hf i] at hz
        by_cases e : i = j
        · exact .inr (by rw [e]; exact List.mem_cons_self)
        · rw [if_neg e] at hz
          exact .inl ⟨z, hz⟩
      · exact .inr (List.mem_cons_of_mem _ hm)
/-- stores that have the same at each id are the same -/
theorem store_ext : ∀ {a b : List Hd}, StoreOk a → StoreOk b → (∀ i, findH a i = findH b i) → a = b := by
  have key : ∀ {a b : List Hd}, (a.Pairwise fun x y => x.id < y.id) → (b.Pairwise fun x y => x.id < y.id) → (∀ i, findH a i = findH b i) → a = b := by
    intro a
    induction a with
    | nil =>
      intro b _ _ h
      cases b with
      | nil => rfl
      | cons y r => have := h y.id; rw [findH_cons, if_pos rfl] at this; cases this
    | cons x a ih =>
      intro b ha hb h
      cases b with
      | nil => have := h x.id; rw [findH_cons, if_pos rfl] at this; cases this
      | cons y r =>
        obtain ⟨ha1, ha2⟩ := List.pairwise_cons.1 ha
        obtain ⟨hb1, hb2⟩ := List.pairwise_cons.1 hb
        have hxy : x = y := by
          have h1 := h x.id
          have h2 := h y.id
          rw [findH_cons, if_pos rfl, findH_cons] at h1
          rw [findH_cons, findH_cons, if_pos rfl] at h2
          by_cases e : x.id = y.id
          · rw [if_pos e] at h1; exact Option.some.inj h1
          · rw [if_neg e] at h1
            rw [if_neg fun q => e q.symm] at h2
            have m1 := hb1 x (findH_some h1.symm).1
            have m2 := ha1 y (findH_some h2).1
            omega
        subst hxy
        congr 1
        refine ih ha2 hb2 fun i => ?_
        have := h i
        rw [findH_cons, findH_cons] at this
        by_cases e : i = x.id
        · subst e
          rw [nofind' fun z hz => by have := ha1 z hz; omega, nofind' fun z hz => by have := hb1 z hz; omega]
        · rwa [if_neg e, if_neg e] at this
  intro a b ha hb h
  exact key ((storeOk_set.1 ha).2.2.imp fun h => h.1) ((storeOk_set.1 hb).2.2.imp fun h => h.1) h
end Go.Sf
