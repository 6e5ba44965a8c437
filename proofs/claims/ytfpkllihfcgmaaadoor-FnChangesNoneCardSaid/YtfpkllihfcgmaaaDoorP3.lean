/- Plain facts on paths: cut and join, the order of bytes; items by the list of their parts. -/
import Derived.Test.YtfpkllihfcgmaaaDoorP1
namespace Go.Sf
open Go
/-- the order of bytes on lists -/
def lt8 (a b : List UInt8) : Bool := Op.bytesLess a b
theorem blt_eq (a b : ByteArray) : blt a b = lt8 (bl a) (bl b) := by unfold blt lt8 bl; rw [ByteArray.toList_eq, ByteArray.toList_eq]
theorem lt8_nil_right (a : List UInt8) : lt8 a [] = false := by cases a <;> rfl
theorem lt8_nil_cons (b : UInt8) (y : List UInt8) : lt8 [] (b :: y) = true := rfl
theorem lt8_cons (a b : UInt8) (x y : List UInt8) : lt8 (a :: x) (b :: y) = (decide (a < b) || (a == b && lt8 x y)) := rfl
theorem lt8_irrefl (a : List UInt8) : lt8 a a = false := by
  induction a with
  | nil => rfl
  | cons c cs ih => rw [lt8_cons, ih]; simp
theorem lt8_trans : ∀ (a b c : List UInt8), lt8 a b = true → lt8 b c = true → lt8 a c = true := by
  intro a
  induction a with
  | nil =>
    intro b c h1 h2
    cases c with
    | nil => rw [lt8_nil_right] at h2; cases h2
    | cons => rfl
  | cons x xs ih =>
    intro b c h1 h2
    cases b with
    | nil => rw [lt8_nil_right] at h1; cases h1
    | cons y ys =>
      cases c with
      | nil => rw [lt8_nil_right] at h2; cases h2
      | cons z zs =>
        rw [lt8_cons] at h1 h2 ⊢
        simp only [Bool.or_eq_true, Bool.and_eq_true, decide_eq_true_eq, beq_iff_eq] at h1 h2 ⊢
        rcases h1 with h1 | ⟨rfl, h1⟩
        · rcases h2 with h2 | ⟨rfl, h2⟩
          · exact .inl (UInt8.lt_trans h1 h2)
          · exact .inl h1
        · rcases h2 with h2 | ⟨rfl, h2⟩
          · exact .inl h2
          · exact .inr ⟨rfl, ih _ _ h1 h2⟩
theorem lt8_asymm {a b : List UInt8} (h : lt8 a b = true) : lt8 b a = false := by
  cases h2 : lt8 b a with
  | false => rfl
  | true => have := lt8_trans _ _ _ h h2; rw [lt8_irrefl] at this; cases this
theorem lt8_total : ∀ (a b : List UInt8), lt8 a b = false → lt8 b a = false → a = b := by
  intro a
  induction a with
  | nil => intro b h1 h2; cases b with
    | nil => rfl
    | cons => rw [lt8_nil_cons] at h1; cases h1
  | cons x xs ih =>
    intro b h1 h2
    cases b with
    | nil => rw [lt8_nil_cons] at h2; cases h2
    | cons y ys =>
      rw [lt8_cons] at h1 h2
      simp only [Bool.or_eq_false_iff, Bool.and_eq_false_iff, decide_eq_false_iff_not, beq_eq_false_iff_ne] at h1 h2
      have hxy : x = y := UInt8.le_antisymm (UInt8.not_lt.1 h2.1) (UInt8.not_lt.1 h1.1)
      subst hxy
      rw [ih ys (by simpa using h1.2) (by simpa using h2.2)]
theorem lt8_ne {a b : List UInt8} (h : lt8 a b = true) : a ≠ b := by rintro rfl; rw [lt8_irrefl] at h; cases h
theorem lt8_append (p a b : List UInt8) : lt8 (p ++ a) (p ++ b) = lt8 a b := by
  induction p with
  | nil => rfl
  | cons c cs ih => rw [List.cons_append, List.cons_append, lt8_cons, ih]; simp
theorem lt8_longer (p : List UInt8) (c : UInt8) (q : List UInt8) : lt8 p (p ++ c :: q) = true := by
  have := lt8_append p [] (c :: q); rw [List.append_nil] at this; rw [this]; rfl
theorem low_gt {c : UInt8} (h : low c = true) : (47 : UInt8) < c := by
  simp [low] at h
  rw [UInt8.lt_iff_toNat_lt]; show 47 < c.toNat; omega
/-- what is within a comes ahead of a later sibling b -/
theorem lt8_within (a b r : List UInt8) (hb : b.all low = true) (h : lt8 a b = true) : lt8 (a ++ 47 :: r) b = true := by
  induction a generalizing b with
  | nil =>
    cases b with
    | nil => rw [lt8_nil_right] at h; cases h
    | cons c cs =>
      simp only [List.all_cons, Bool.and_eq_true] at hb
      rw [List.nil_append, lt8_cons]
      simp [low_gt hb.1]
  | cons x xs ih =>
    cases b with
    | nil => rw [lt8_nil_right] at h; cases h
    | cons c cs =>
      simp only [List.all_cons, Bool.and_eq_true] at hb
      rw [List.cons_append, lt8_cons]
      rw [lt8_cons] at h
      simp only [Bool.or_eq_true, Bool.and_eq_true, decide_eq_true_eq, beq_iff_eq] at h ⊢
      rcases h with h | ⟨h, h'⟩
      · exact .inl h
      · exact .inr ⟨h, ih _ hb.2 h'⟩

/-- parts with slashes between them -/
def joinS : List (List UInt8) → List UInt8
  | [] => []
  | [a] => a
  | a :: b :: r => a ++ 47 :: joinS (b :: r)
theorem joinS_cons {a : List UInt8} {r : List (List UInt8)} (h : r ≠ []) : joinS (a :: r) = a ++ 47 :: joinS r := by
  cases r with
  | nil => exact absurd rfl h
  | cons b r => rfl
theorem joinS_cutG (l : List UInt8) : ∀ cur, joinS (cutG cur l) = cur ++ l := by
  induction l with
  | nil => intro cur; simp [cutG, joinS]
  | cons c cs ih =>
    intro cur
    unfold cutG
    split
    · next h => subst h; rw [joinS_cons (cutG_ne _ _), ih]; rfl
    · rw [ih]; simp
theorem joinS_cut (l : List UInt8) : joinS (cut l) = l := by rw [cut, joinS_cutG]; rfl
theorem cut_inj {a b : List UInt8} (h : cut a = cut b) : a = b := by rw [← joinS_cut a, h, joinS_cut]
theorem cutG_word (w : List UInt8) (h : w.all low = true) : ∀ cur rest, cutG cur (w ++ rest) = cutG (cur ++ w) rest := by
  induction w with
  | nil => intro cur rest; simp
  | cons c cs ih =>
    intro cur rest
    simp only [List.all_cons, Bool.and_eq_true] at h
    rw [List.cons_append, cutG, if_neg, ih h.2]
    · simp
    · rintro rfl; exact absurd h.1 (by decide)
theorem wordOk_low {w : List UInt8} (h : wordOk w = true) : w.all low = true := by simp [wordOk] at h ⊢; exact h.1
theorem cut_joinS : ∀ (ws : List (List UInt8)), ws ≠ [] → ws.all wordOk = true → cut (joinS ws) = ws := by
  intro ws
  induction ws with
  | nil => intro h; exact absurd rfl h
  | cons a r ih =>
    intro _ h
    simp only [List.all_cons, Bool.and_eq_true] at h
    cases r with
    | nil =>
      show cutG [] a = [a]
      have := cutG_word a (wordOk_low h.1) [] []
      rw [List.append_nil] at this
      rw [this]; rfl
    | cons b r =>
      rw [joinS_cons (by simp)]
      show cutG [] _ = _
      rw [cutG_word a (wordOk_low h.1) [] (47 :: joinS (b :: r))]
      rw [cutG, if_pos rfl]
      have := ih (by simp) h.2
      rw [cut] at this
      rw [this]; rfl
theorem joinS_snoc (k : List (List UInt8)) (n : List UInt8) : joinS (k ++ [n]) = if k = [] then n else joinS k ++ 47 :: n := by
  induction k with
  | nil => rfl
  | cons a r ih =>
    rw [if_neg (by simp), List.cons_append]
    rw [joinS_cons (by simp), ih]
    cases r with
    | nil => simp [joinS]
    | cons b r => rw [if_neg (by simp), joinS_cons (a := a) (by simp)]; simp
/-- the text ahead of the names in a directory -/
def startOf (k : List (List UInt8)) : List UInt8 := if k = [] then [] else joinS k ++ [47]
theorem joinS_start (k : List (List UInt8)) (n : List UInt8) : joinS (k ++ [n]) = startOf k ++ n := by
  rw [joinS_snoc]; unfold startOf; split <;> simp
theorem start_snoc (k : List (List UInt8)) (n : List UInt8) : startOf (k ++ [n]) = startOf k ++ n ++ [47] := by
  conv => lhs; unfold startOf
  rw [if_neg (by simp), joinS_start]

/-- an item's parts -/
def key (x : It) : List (List UInt8) := cut (bl x.path)
theorem key_path {x y : It} (h : key x = key y) : x.path = y.path := bl_inj (cut_inj h)
theorem key_ne (x : It) : key x ≠ [] := cutG_ne _ _
theorem key_join (x : It) : joinS (key x) = bl x.path := joinS_cut _
def kin (k : List (List UInt8)) (x : It) : Bool := decide ((key x).dropLast = k)
/-- what is just in a directory -/
def kidsOf (l : List It) (k : List (List UInt8)) : List It := l.filter (kin k)
/-- what is in a directory, depth n -/
def flat (l : List It) : Nat → List (List UInt8) → List It
  | 0, _ => []
  | n + 1, k => (kidsOf l k).flatMap fun x => x :: flat l n (key x)
theorem itemOk_path {x : It} (h : itemOk x = true) : pathOk x.path = true := by simp [itemOk] at h; exact h.2.1
theorem key_ok {x : It} (h : pathOk x.path = true) : (key x).all wordOk = true ∧ (key x).length ≤ 4 := by
  simp only [pathOk, pathOkL, Bool.and_eq_true, decide_eq_true_eq] at h; exact h

/-! ### the last slash -/
theorem lastG_none (l : List UInt8) (h : 47 ∉ l) : ∀ k acc, lastG l k acc = acc := by
  induction l with
  | nil => intros; rfl
  | cons c cs ih =>
    intro k acc
    simp only [List.mem_cons, not_or] at h
    rw [lastG, if_neg (fun e => h.1 e.symm), ih h.2]
theorem lastG_some (a b : List UInt8) (h : 47 ∉ b) : ∀ k acc, lastG (a ++ 47 :: b) k acc = ((k + a.length : Nat) : Int) := by
  induction a with
  | nil => intro k acc; rw [List.nil_append, lastG, if_pos rfl, lastG_none b h]; simp
  | cons c cs ih => intro k acc; rw [List.cons_append, lastG, ih]; simp; omega
theorem slash_split (l : List UInt8) : 47 ∉ l ∨ ∃ a b, l = a ++ 47 :: b ∧ 47 ∉ b := by
  induction l with
  | nil => left; simp
  | cons c cs ih =>
    rcases ih with h | ⟨a, b, rfl, h⟩
    · by_cases hc : c = 47
      · subst hc; exact .inr ⟨[], cs, rfl, h⟩
      · left; simp only [List.mem_cons, not_or]; exact ⟨fun e => hc e.symm, h⟩
    · exact .inr ⟨c :: a, b, rfl, h⟩
theorem cutG_none (b : List UInt8) (h : 47 ∉ b) : ∀ cur, cutG cur b = [cur ++ b] := by
  induction b with
  | nil => intro cur; simp [cutG]
  | cons c cs ih =>
    intro cur
    simp only [List.mem_cons, not_or] at h
    rw [cutG, if_neg (fun e => h.1 e.symm), ih h.2]; simp
theorem cutG_app (a b : List UInt8) : ∀ cur, cutG cur (a ++ 47 :: b) = cutG cur a ++ cutG [] b := by
  induction a with
  | nil => intro cur; simp [cutG]
  | cons c cs ih =>
    intro cur
    rw [List.cons_append, cutG, cutG]
    split
    · rw [ih]; rfl
    · rw [ih]
theorem parent_join (p : ByteArray) : bl (parentB p) = joinS (cut (bl p)).dropLast := by
  have e : bl (parentB p) = (bl p).take (lastSlash (bl p)).toNat := by rw [parentB, bl_extract]; rfl
  rw [e]
  rcases slash_split (bl p) with h | ⟨a, b, h, hb⟩
  · rw [lastSlash, lastG_none _ h, cut, cutG_none _ h]; rfl
  · rw [lastSlash, h, lastG_some a b hb, cut, cutG_app, cutG_none b hb, List.dropLast_concat]
    rw [← cut, joinS_cut]
    simp
theorem joinS_eq_nil {k : List (List UInt8)} (h : k.all wordOk = true) : joinS k = [] ↔ k = [] := by
  constructor
  · intro e
    cases k with
    | nil => rfl
    | cons a r =>
      simp only [List.all_cons, Bool.and_eq_true] at h
      have ha : a ≠ [] := by rintro rfl; exact absurd h.1 (by decide)
      cases r with
      | nil => exact absurd e ha
      | cons b r => rw [joinS_cons (by simp)] at e; simp at e
  · rintro rfl; rfl
theorem all_dropLast {k : List (List UInt8)} (h : k.all wordOk = true) : k.dropLast.all wordOk = true := by
  rw [List.all_eq_true] at h ⊢
  exact fun x hx => h x ((List.dropLast_sublist k).subset hx)
theorem parent_nil {x : It} (h : pathOk x.path = true) : eqb (parentB x.path) emptyB = true ↔ (key x).dropLast = [] := by
  rw [eqb_iff, ← joinS_eq_nil (all_dropLast (key_ok h).1)]
  show _ ↔ joinS (cut (bl x.path)).dropLast = []
  rw [← parent_join]
  exact ⟨fun e => by rw [e]; rfl, fun e => bl_inj e⟩
theorem parent_key {x y : It} (hx : pathOk x.path = true) (hn : (key x).dropLast ≠ []) : y.path = parentB x.path ↔ key y = (key x).dropLast := by
  constructor
  · intro e
    show cut (bl y.path) = _
    rw [e, parent_join]
    exact cut_joinS _ hn (all_dropLast (key_ok hx).1)
  · intro e
    apply bl_inj
    rw [parent_join, ← key_join y, e]; rfl

/-! ### what grows item by item -/
/-- x fits behind l -/
def Fits (l : List It) (x : It) : Prop := itemOk x = true ∧ (∀ y, y ∈ l → lt8 (bl y.path) (bl x.path) = true) ∧ ((key x).dropLast = [] ∨ ∃ z, z ∈ l ∧ key z = (key x).dropLast ∧ z.dir = true)
def Grow (l : List It) : Prop := ∀ k x, l[k]? = some x → Fits (l.take k) x
theorem Grow.nil : Grow [] := fun k x h => by simp at h
theorem Grow.take {l : List It} (h : Grow l) (n : Nat) : Grow (l.take n) := fun k x hx => by
  rw [List.getElem?_take] at hx
  split at hx
  · next hk =>
    have := h k x hx
    rwa [List.take_take, Nat.min_eq_left (by omega)]
  · cases hx
theorem Grow.snoc {l : List It} {x : It} (h : Grow l) (hx : Fits l x) : Grow (l ++ [x]) := fun k y hy => by
  rcases Nat.lt_or_ge k l.length with hlt | hge
  · rw [List.getElem?_append_left hlt] at hy
    rw [List.take_append_of_le_length (by omega)]
    exact h k y hy
  · rw [List.getElem?_append_right hge] at hy
    have : k - l.length = 0 := by
      rcases Nat.eq_zero_or_pos (k - l.length) with h | h
      · exact h
      · rw [List.getElem?_eq_none (by simp; omega)] at hy; cases hy
    rw [this] at hy
    simp at hy
    subst hy
    have : k = l.length := by omega
    subst this
    simpa using hx
theorem Grow.init {l : List It} {x : It} (h : Grow (l ++ [x])) : Grow l ∧ Fits l x := by
  refine ⟨by simpa using h.take l.length, ?_⟩
  have := h l.length x (by simp)
  simpa using this
theorem grow_ind {P : List It → Prop} (h0 : P []) (h1 : ∀ l x, Grow l → Fits l x → P l → P (l ++ [x])) : ∀ l, Grow l → P l := by
  intro l
  generalize hn : l.length = n
  induction n generalizing l with
  | zero => intro _; rw [List.length_eq_zero_iff.1 hn]; exact h0
  | succ n ih =>
    intro hg
    have hne : l ≠ [] := by rintro rfl; simp at hn
    have e := List.dropLast_concat_getLast hne
    rw [← e] at hg ⊢
    have := hg.init
    exact h1 _ _ this.1 this.2 (ih _ (by simp [hn]) this.1)
theorem Grow.fits {l : List It} {x : It} (h : Grow l) (hx : x ∈ l) : itemOk x = true ∧ ((key x).dropLast = [] ∨ ∃ z, z ∈ l ∧ key z = (key x).dropLast ∧ z.dir = true) := by
  obtain ⟨k, hk⟩ := List.mem_iff_getElem?.1 hx
  obtain ⟨h1, -, h3⟩ := h k x hk
  exact ⟨h1, h3.imp_right fun ⟨z, hz, r⟩ => ⟨z, List.mem_of_mem_take hz, r⟩⟩
theorem Grow.lt {l : List It} (h : Grow l) {i j : Nat} {x y : It} (hx : l[i]? = some x) (hy : l[j]? = some y) (hij : i < j) : lt8 (bl x.path) (bl y.path) = true :=
  (h j y hy).2.1 x (List.mem_iff_getElem?.2 ⟨i, by rw [List.getElem?_take, if_pos hij]; exact hx⟩)
theorem Grow.inj {l : List It} (h : Grow l) {x y : It} (hx : x ∈ l) (hy : y ∈ l) (e : x.path = y.path) : x = y := by
  obtain ⟨i, hi⟩ := List.mem_iff_getElem?.1 hx
  obtain ⟨j, hj⟩ := List.mem_iff_getElem?.1 hy
  rcases Nat.lt_trichotomy i j with hl | rfl | hl
  · have := h.lt hi hj hl; rw [e, lt8_irrefl] at this; cases this
  · rw [hi] at hj; exact Option.some.inj hj
  · have := h.lt hj hi hl; rw [e, lt8_irrefl] at this; cases this
/-- the keys of a tree, the root's among them -/
def isKey (l : List It) (k : List (List UInt8)) : Prop := k = [] ∨ ∃ z, z ∈ l ∧ key z = k
theorem Grow.prefix_ {l : List It} (h : Grow l) : ∀ (k : List (List UInt8)), isKey l k → ∀ p, p <+: k → isKey l p := by
  intro k
  generalize hn : k.length = n
  induction n generalizing k with
  | zero => intro _ p hp; rw [List.length_eq_zero_iff.1 hn] at hp; left; simpa using hp
  | succ n ih =>
    intro hk p hp
    rcases hk with rfl | ⟨z, hz, rfl⟩
    · simp at hn
    · by_cases hpe : p = key z
      · exact .inr ⟨z, hz, hpe.symm⟩
      · have hp' : p <+: (key z).dropLast := by
          have e := List.dropLast_concat_getLast (key_ne z)
          rw [← e] at hp hpe
          exact (List.prefix_concat_iff.1 hp).resolve_left hpe
        refine ih _ (by simp [hn]) ?_ p hp'
        rcases (h.fits hz).2 with h' | ⟨y, hy, h', -⟩
        · exact .inl h'
        · exact .inr ⟨y, hy, h'⟩
theorem kidsOf_append (l : List It) (x : It) (k : List (List UInt8)) : kidsOf (l ++ [x]) k = kidsOf l k ++ (if (key x).dropLast = k then [x] else []) := by
  unfold kidsOf
  rw [List.filter_append]
  congr 1
  by_cases h : (key x).dropLast = k <;> simp [kin, h]
theorem mem_kids {l : List It} {k : List (List UInt8)} {x : It} : x ∈ kidsOf l k ↔ x ∈ l ∧ (key x).dropLast = k := by
  simp [kidsOf, kin]
theorem flat_none (l : List It) (k : List (List UInt8)) (h : ∀ x, x ∈ l → (key x).dropLast ≠ k) (n : Nat) : flat l n k = [] := by
  cases n with
  | zero => rfl
  | succ n =>
    have : kidsOf l k = [] := by
      rw [kidsOf, List.filter_eq_nil_iff]; intro x hx; simp [kin, h x hx]
    rw [flat, this]; rfl
theorem key_last {x : It} : key x = (key x).dropLast ++ [(key x).getLast (key_ne x)] := (List.dropLast_concat_getLast (key_ne x)).symm
end Go.Sf
