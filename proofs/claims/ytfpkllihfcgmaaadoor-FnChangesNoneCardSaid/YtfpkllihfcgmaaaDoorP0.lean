/- The plain functions on bytes and paths. -/
namespace Go.Sf
def bl (s : ByteArray) : List UInt8 := s.data.toList
def mkB (l : List UInt8) : ByteArray := ⟨l.toArray⟩
theorem bl_mkB (l : List UInt8) : bl (mkB l) = l := rfl
theorem mkB_bl (s : ByteArray) : mkB (bl s) = s := rfl
theorem bl_inj {a b : ByteArray} (h : bl a = bl b) : a = b := by rw [← mkB_bl a, h, mkB_bl]
theorem bl_length (s : ByteArray) : (bl s).length = s.size := rfl
theorem bl_get (s : ByteArray) {k : Nat} (h : k < s.size) : (bl s)[k]? = some s[k] := by
  show s.data.toList[k]? = some s.data[k]
  rw [Array.getElem?_toList, Array.getElem?_eq_getElem h]
theorem bl_extract (s : ByteArray) (i j : Nat) : bl (s.extract i j) = ((bl s).take j).drop i := by
  show (s.extract i j).data.toList = _
  rw [ByteArray.data_extract, Array.toList_extract, List.extract_eq_take_drop]
  rw [List.drop_take]; rfl
/-- a small letter -/
def low (c : UInt8) : Bool := decide (97 ≤ c.toNat) && decide (c.toNat ≤ 122)
def wordOk (l : List UInt8) : Bool := l.all low && (decide (1 ≤ l.length) && decide (l.length ≤ 5))
/-- a text cut at its slashes, the piece that has begun being cur -/
def cutG : List UInt8 → List UInt8 → List (List UInt8)
  | cur, [] => [cur]
  | cur, c :: cs => if c = 47 then cur :: cutG [] cs else cutG (cur ++ [c]) cs
def cut (l : List UInt8) : List (List UInt8) := cutG [] l
theorem cutG_ne (cur l : List UInt8) : cutG cur l ≠ [] := by
  induction l generalizing cur with
  | nil => simp [cutG]
  | cons c cs ih => unfold cutG; split <;> simp [ih]
theorem cutG_length (l : List UInt8) : ∀ cur, (cutG cur l).length ≤ l.length + 1 := by
  induction l with
  | nil => intro cur; simp [cutG]
  | cons c cs ih =>
    intro cur
    unfold cutG
    split
    · simp only [List.length_cons]; have := ih []; omega
    · have := ih (cur ++ [c]); simp only [List.length_cons]; omega
theorem cutG_len (l : List UInt8) : ∀ cur, ∀ p ∈ cutG cur l, p.length ≤ cur.length + l.length := by
  induction l with
  | nil => intro cur p hp; simp [cutG] at hp; subst hp; simp
  | cons c cs ih =>
    intro cur p hp
    unfold cutG at hp
    split at hp
    · rcases List.mem_cons.1 hp with rfl | hp
      · simp
      · have := ih [] p hp; simp at this ⊢; omega
    · have := ih (cur ++ [c]) p hp; simp at this ⊢; omega
def pathOkL (l : List UInt8) : Bool := (cut l).all wordOk && decide ((cut l).length ≤ 4)
def pathOk (s : ByteArray) : Bool := pathOkL (bl s)
/-- where the last slash is, the places beginning at k and the answer so far being acc -/
def lastG : List UInt8 → Nat → Int → Int
  | [], _, acc => acc
  | c :: cs, k, acc => lastG cs (k + 1) (if c = 47 then (k : Int) else acc)
def lastSlash (l : List UInt8) : Int := lastG l 0 (-1)
theorem lastG_bd (l : List UInt8) : ∀ (k : Nat) (acc : Int), -1 ≤ acc → acc < k → -1 ≤ lastG l k acc ∧ lastG l k acc < k + l.length := by
  induction l with
  | nil => intro k acc h1 h2; simp [lastG]; omega
  | cons c cs ih =>
    intro k acc h1 h2
    unfold lastG
    have := ih (k + 1) (if c = 47 then (k : Int) else acc) (by split <;> omega) (by split <;> omega)
    simp only [List.length_cons]; omega
theorem lastSlash_bd (l : List UInt8) : -1 ≤ lastSlash l ∧ lastSlash l < l.length ∨ lastSlash l = -1 := by
  cases l with
  | nil => exact .inr rfl
  | cons c cs =>
    left
    have h := lastG_bd cs 1 (if c = 47 then ((0 : Nat) : Int) else -1) (by split <;> omega) (by split <;> omega)
    have e : lastSlash (c :: cs) = lastG cs 1 (if c = 47 then ((0 : Nat) : Int) else -1) := rfl
    rw [e]; simp only [List.length_cons]; omega
def parentB (s : ByteArray) : ByteArray := s.extract 0 (lastSlash (bl s)).toNat
/-- n lies in lo .. hi -/
def inB (n lo hi : Int) : Bool := decide (lo ≤ n) && decide (n ≤ hi)
theorem inB_iff {n lo hi : Int} : inB n lo hi = true ↔ lo ≤ n ∧ n ≤ hi := by simp [inB]

/-- the place of the first element that p holds of, the list's places beginning at k; -1 if there is none -/
def atG {α : Type} (p : α → Bool) : List α → Nat → Int
  | [], _ => -1
  | x :: xs, k => if p x then (k : Int) else atG p xs (k + 1)
theorem drop_cons {α : Type} {l : List α} {k : Nat} {x : α} (h : l[k]? = some x) : l.drop k = x :: l.drop (k + 1) := by
  have hl : k < l.length := by
    rcases Nat.lt_or_ge k l.length with hlt | hge
    · exact hlt
    · rw [List.getElem?_eq_none hge] at h; cases h
  rw [List.drop_eq_getElem_cons hl]
  rw [List.getElem?_eq_getElem hl] at h
  rw [Option.some.inj h]
theorem atG_find {α : Type} (p : α → Bool) (l : List α) : ∀ k, (l.find? p = none ∧ atG p l k = -1) ∨ (∃ i x, l[i]? = some x ∧ p x = true ∧ l.find? p = some x ∧ atG p l k = ((k + i : Nat) : Int) ∧ ∀ j y, j < i → l[j]? = some y → p y = false) := by
  induction l with
  | nil => intro k; left; simp [atG]
  | cons x xs ih =>
    intro k
    cases hp : p x with
    | true => right; exact ⟨0, x, by simp, hp, by simp [hp], by simp [atG, hp], fun j y h => absurd h (by omega)⟩
    | false =>
      rcases ih (k + 1) with ⟨h1, h2⟩ | ⟨i, y, h1, h2, h3, h4, h5⟩
      · left; exact ⟨by simp [hp, h1], by simp [atG, hp, h2]⟩
      · right
        refine ⟨i + 1, y, by simpa using h1, h2, by simp [hp, h3], by simp only [atG, hp]; rw [if_neg (by simp), h4]; omega, fun j z hj hz => ?_⟩
        cases j with
        | zero => simp at hz; subst hz; exact hp
        | succ j => exact h5 j z (by omega) (by simpa using hz)
end Go.Sf
