/- Plain laws of paths, trees and changes. -/
import Derived.Test.YtpldhlpegpgmcaaDoorGA
import Derived.Lib.Split
import Derived.Lib.SplitLaws
/-! The plain functions on bytes and paths. -/
namespace Go.Sf
def bl (s : ByteArray) : List UInt8 := s.data.toList
def mkB (l : List UInt8) : ByteArray := ⟨l.toArray⟩
theorem bl_mkB (l : List UInt8) : bl (mkB l) = l := rfl
theorem mkB_bl (s : ByteArray) : mkB (bl s) = s := rfl
theorem bl_inj {a b : ByteArray} (h : bl a = bl b) : a = b := by rw [← mkB_bl a, h, mkB_bl]
theorem bl_length (s : ByteArray) : (bl s).length = s.size := rfl
theorem bl_get (s : ByteArray) {k : Nat} (h : k < s.size) : (bl s)[k]? = some s[k] := by
  show s.data.toList[k]? = some s.data[k]
  rw [Array.getElem?_toList, Array.getElem?_eq_getElem h]
theorem bl_extract (s : ByteArray) (i j : Nat) : bl (s.extract i j) = ((bl s).take j).drop i := by
  show (s.extract i j).data.toList = _
  rw [ByteArray.data_extract, Array.toList_extract, List.extract_eq_take_drop]
  rw [List.drop_take]; rfl
/-- a small letter -/
def low (c : UInt8) : Bool := decide (97 ≤ c.toNat) && decide (c.toNat ≤ 122)
def wordOk (l : List UInt8) : Bool := l.all low && (decide (1 ≤ l.length) && decide (l.length ≤ 5))
/-- a text cut at its slashes, the piece that has begun being cur -/
def cutG : List UInt8 → List UInt8 → List (List UInt8)
  | cur, [] => [cur]
  | cur, c :: cs => if c = 47 then cur :: cutG [] cs else cutG (cur ++ [c]) cs
def cut (l : List UInt8) : List (List UInt8) := cutG [] l
theorem cutG_ne (cur l : List UInt8) : cutG cur l ≠ [] := by
  induction l generalizing cur with
  | nil => simp [cutG]
  | cons c cs ih => unfold cutG; split <;> simp [ih]
theorem cutG_length (l : List UInt8) : ∀ cur, (cutG cur l).length ≤ l.length + 1 := by
  induction l with
  | nil => intro cur; simp [cutG]
  | cons c cs ih =>
    intro cur
    unfold cutG
    split
    · simp only [List.length_cons]; have := ih []; omega
    · have := ih (cur ++ [c]); simp only [List.length_cons]; omega
theorem cutG_len (l : List UInt8) : ∀ cur, ∀ p ∈ cutG cur l, p.length ≤ cur.length + l.length := by
  induction l with
  | nil => intro cur p hp; simp [cutG] at hp; subst hp; simp
  | cons c cs ih =>
    intro cur p hp
    unfold cutG at hp
    split at hp
    · rcases List.mem_cons.1 hp with rfl | hp
      · simp
      · have := ih [] p hp; simp at this ⊢; omega
    · have := ih (cur ++ [c]) p hp; simp at this ⊢; omega
def pathOkL (l : List UInt8) : Bool := (cut l).all wordOk && decide ((cut l).length ≤ 4)
def pathOk (s : ByteArray) : Bool := pathOkL (bl s)
/-- where the last slash is, the places beginning at k and the answer so far being acc -/
def lastG : List UInt8 → Nat → Int → Int
  | [], _, acc => acc
  | c :: cs, k, acc => lastG cs (k + 1) (if c = 47 then (k : Int) else acc)
def lastSlash (l : List UInt8) : Int := lastG l 0 (-1)
theorem lastG_bd (l : List UInt8) : ∀ (k : Nat) (acc : Int), -1 ≤ acc → acc < k → -1 ≤ lastG l k acc ∧ lastG l k acc < k + l.length := by
  induction l with
  | nil => intro k acc h1 h2; simp [lastG]; omega
  | cons c cs ih =>
    intro k acc h1 h2
    unfold lastG
    have := ih (k + 1) (if c = 47 then (k : Int) else acc) (by split <;> omega) (by split <;> omega)
    simp only [List.length_cons]; omega
theorem lastSlash_bd (l : List UInt8) : -1 ≤ lastSlash l ∧ lastSlash l < l.length ∨ lastSlash l = -1 := by
  cases l with
  | nil => exact .inr rfl
  | cons c cs =>
    left
    have h := lastG_bd cs 1 (if c = 47 then ((0 : Nat) : Int) else -1) (by split <;> omega) (by split <;> omega)
    have e : lastSlash (c :: cs) = lastG cs 1 (if c = 47 then ((0 : Nat) : Int) else -1) := rfl
    rw [e]; simp only [List.length_cons]; omega
def parentB (s : ByteArray) : ByteArray := s.extract 0 (lastSlash (bl s)).toNat
/-- n lies in lo .. hi -/
def inB (n lo hi : Int) : Bool := decide (lo ≤ n) && decide (n ≤ hi)
theorem inB_iff {n lo hi : Int} : inB n lo hi = true ↔ lo ≤ n ∧ n ≤ hi := by simp [inB]

/-- the place of the first element that p holds of, the list's places beginning at k; -1 if there is none -/
def atG {α : Type} (p : α → Bool) : List α → Nat → Int
  | [], _ => -1
  | x :: xs, k => if p x then (k : Int) else atG p xs (k + 1)
theorem drop_cons {α : Type} {l : List α} {k : Nat} {x : α} (h : l[k]? = some x) : l.drop k = x :: l.drop (k + 1) := by
  have hl : k < l.length := by
    rcases Nat.lt_or_ge k l.length with hlt | hge
    · exact hlt
    · rw [List.getElem?_eq_none hge] at h; cases h
  rw [List.drop_eq_getElem_cons hl]
  rw [List.getElem?_eq_getElem hl] at h
  rw [Option.some.inj h]
theorem atG_find {α : Type} (p : α → Bool) (l : List α) : ∀ k, (l.find? p = none ∧ atG p l k = -1) ∨ (∃ i x, l[i]? = some x ∧ p x = true ∧ l.find? p = some x ∧ atG p l k = ((k + i : Nat) : Int) ∧ ∀ j y, j < i → l[j]? = some y → p y = false) := by
  induction l with
  | nil => intro k; left; simp [atG]
  | cons x xs ih =>
    intro k
    cases hp : p x with
    | true => right; exact ⟨0, x, by simp, hp, by simp [hp], by simp [atG, hp], fun j y h => absurd h (by omega)⟩
    | false =>
      rcases ih (k + 1) with ⟨h1, h2⟩ | ⟨i, y, h1, h2, h3, h4, h5⟩
      · left; exact ⟨by simp [hp, h1], by simp [atG, hp, h2]⟩
      · right
        refine ⟨i + 1, y, by simpa using h1, h2, by simp [hp, h3], by simp only [atG, hp]; rw [if_neg (by simp), h4]; omega, fun j z hj hz => ?_⟩
        cases j with
        | zero => simp at hz; subst hz; exact hp
        | succ j => exact h5 j z (by omega) (by simpa using hz)
end Go.Sf

/-! The plain functions on trees. -/
namespace Go.Sf
/-- byte by byte, a comes ahead of b -/
def blt (a b : ByteArray) : Bool := Op.bytesLess a.toList b.toList
def emptyB : ByteArray := ByteArray.empty
def pathIs (p : ByteArray) (x : It) : Bool := eqb x.path p
def atPath (l : List It) (p : ByteArray) : Int := atG (pathIs p) l 0
def findIt (l : List It) (p : ByteArray) : Option It := l.find? (pathIs p)
def dirAt (l : List It) (p : ByteArray) : Bool := match findIt l p with | some x => x.dir | none => false
def homeOk (l : List It) (p : ByteArray) : Bool := eqb (parentB p) emptyB || dirAt l (parentB p)
def idsOk (x : It) : Bool := x.ids.all fun i => !x.dir && inB i 1 99
def itemOk (x : It) : Bool := idsOk x && (pathOk x.path && decide (x.ids.length ≤ 4))
/-- what a valid tree's item at place k meets -/
def ItAt (l : List It) (k : Nat) (x : It) : Prop := itemOk x = true ∧ (∀ j y, k = j + 1 → l[j]? = some y → blt y.path x.path = true) ∧ homeOk l x.path = true
def TreeOk (l : List It) : Prop := l.length ≤ 12 ∧ ∀ k x, l[k]? = some x → ItAt l k x
open Classical in
noncomputable def treeOk (l : List It) : Bool := decide (TreeOk l)
theorem treeOk_iff {l : List It} : treeOk l = true ↔ TreeOk l := by unfold treeOk; simp
theorem treeOk_false {l : List It} : treeOk l = false ↔ ¬ TreeOk l := by unfold treeOk; simp
end Go.Sf

/-! The plain changes between two trees. -/
namespace Go.Sf
end Go.Sf

/-! Plain facts on paths: cut and join, the order of bytes; items by the list of their parts. -/
namespace Go.Sf
open Go
/-- the order of bytes on lists -/
def lt8 (a b : List UInt8) : Bool := Op.bytesLess a b
theorem blt_eq (a b : ByteArray) : blt a b = lt8 (bl a) (bl b) := by unfold blt lt8 bl; rw [ByteArray.toList_eq, ByteArray.toList_eq]
theorem lt8_nil_right (a : List UInt8) : lt8 a [] = false := by cases a <;> rfl
theorem lt8_nil_cons (b : UInt8) (y : List UInt8) : lt8 [] (b :: y) = true := rfl
theorem lt8_cons (a b : UInt8) (x y : List UInt8) : lt8 (a :: x) (b :: y) = (decide (a < b) || (a == b && lt8 x y)) := rfl
theorem lt8_irrefl (a : List UInt8) : lt8 a a = false := by
  induction a with
  | nil => rfl
  | cons c cs ih => rw [lt8_cons, ih]; simp
theorem lt8_trans : ∀ (a b c : List UInt8), lt8 a b = true → lt8 b c = true → lt8 a c = true := by
  intro a
  induction a with
  | nil =>
    intro b c h1 h2
    cases c with
    | nil => rw [lt8_nil_right] at h2; cases h2
    | cons => rfl
  | cons x xs ih =>
    intro b c h1 h2
    cases b with
    | nil => rw [lt8_nil_right] at h1; cases h1
    | cons y ys =>
      cases c with
      | nil => rw [lt8_nil_right] at h2; cases h2
      | cons z zs =>
        rw [lt8_cons] at h1 h2 ⊢
        simp only [Bool.or_eq_true, Bool.and_eq_true, decide_eq_true_eq, beq_iff_eq] at h1 h2 ⊢
        rcases h1 with h1 | ⟨rfl, h1⟩
        · rcases h2 with h2 | ⟨rfl, h2⟩
          · exact .inl (UInt8.lt_trans h1 h2)
          · exact .inl h1
        · rcases h2 with h2 | ⟨rfl, h2⟩
          · exact .inl h2
          · exact .inr ⟨rfl, ih _ _ h1 h2⟩
theorem lt8_asymm {a b : List UInt8} (h : lt8 a b = true) : lt8 b a = false := by
  cases h2 : lt8 b a with
  | false => rfl
  | true => have := lt8_trans _ _ _ h h2; rw [lt8_irrefl] at this; cases this
theorem lt8_total : ∀ (a b : List UInt8), lt8 a b = false → lt8 b a = false → a = b := by
  intro a
  induction a with
  | nil => intro b h1 h2; cases b with
    | nil => rfl
    | cons => rw [lt8_nil_cons] at h1; cases h1
  | cons x xs ih =>
    intro b h1 h2
    cases b with
    | nil => rw [lt8_nil_cons] at h2; cases h2
    | cons y ys =>
      rw [lt8_cons] at h1 h2
      simp only [Bool.or_eq_false_iff, Bool.and_eq_false_iff, decide_eq_false_iff_not, beq_eq_false_iff_ne] at h1 h2
      have hxy : x = y := UInt8.le_antisymm (UInt8.not_lt.1 h2.1) (UInt8.not_lt.1 h1.1)
      subst hxy
      rw [ih ys (by simpa using h1.2) (by simpa using h2.2)]
theorem lt8_append (p a b : List UInt8) : lt8 (p ++ a) (p ++ b) = lt8 a b := by
  induction p with
  | nil => rfl
  | cons c cs ih => rw [List.cons_append, List.cons_append, lt8_cons, ih]; simp
theorem lt8_longer (p : List UInt8) (c : UInt8) (q : List UInt8) : lt8 p (p ++ c :: q) = true := by
  have := lt8_append p [] (c :: q); rw [List.append_nil] at this; rw [this]; rfl
theorem low_gt {c : UInt8} (h : low c = true) : (47 : UInt8) < c := by
  simp [low] at h
  rw [UInt8.lt_iff_toNat_lt]; show 47 < c.toNat; omega
/-- what is within a comes ahead of a later sibling b -/
theorem lt8_within (a b r : List UInt8) (hb : b.all low = true) (h : lt8 a b = true) : lt8 (a ++ 47 :: r) b = true := by
  induction a generalizing b with
  | nil =>
    cases b with
    | nil => rw [lt8_nil_right] at h; cases h
    | cons c cs =>
      simp only [List.all_cons, Bool.and_eq_true] at hb
      rw [List.nil_append, lt8_cons]
      simp [low_gt hb.1]
  | cons x xs ih =>
    cases b with
    | nil => rw [lt8_nil_right] at h; cases h
    | cons c cs =>
      simp only [List.all_cons, Bool.and_eq_true] at hb
      rw [List.cons_append, lt8_cons]
      rw [lt8_cons] at h
      simp only [Bool.or_eq_true, Bool.and_eq_true, decide_eq_true_eq, beq_iff_eq] at h ⊢
      rcases h with h | ⟨h, h'⟩
      · exact .inl h
      · exact .inr ⟨h, ih _ hb.2 h'⟩

/-- parts with slashes between them -/
def joinS : List (List UInt8) → List UInt8
  | [] => []
  | [a] => a
  | a :: b :: r => a ++ 47 :: joinS (b :: r)
theorem joinS_cons {a : List UInt8} {r : List (List UInt8)} (h : r ≠ []) : joinS (a :: r) = a ++ 47 :: joinS r := by
  cases r with
  | nil => exact absurd rfl h
  | cons b r => rfl
theorem joinS_cutG (l : List UInt8) : ∀ cur, joinS (cutG cur l) = cur ++ l := by
  induction l with
  | nil => intro cur; simp [cutG, joinS]
  | cons c cs ih =>
    intro cur
    unfold cutG
    split
    · next h => subst h; rw [joinS_cons (cutG_ne _ _), ih]; rfl
    · rw [ih]; simp
theorem joinS_cut (l : List UInt8) : joinS (cut l) = l := by rw [cut, joinS_cutG]; rfl
theorem cut_inj {a b : List UInt8} (h : cut a = cut b) : a = b := by rw [← joinS_cut a, h, joinS_cut]
theorem cutG_word (w : List UInt8) (h : w.all low = true) : ∀ cur rest, cutG cur (w ++ rest) = cutG (cur ++ w) rest := by
  induction w with
  | nil => intro cur rest; simp
  | cons c cs ih =>
    intro cur rest
    simp only [List.all_cons, Bool.and_eq_true] at h
    rw [List.cons_append, cutG, if_neg, ih h.2]
    · simp
    · rintro rfl; exact absurd h.1 (by decide)
theorem wordOk_low {w : List UInt8} (h : wordOk w = true) : w.all low = true := by simp [wordOk] at h ⊢; exact h.1
theorem cut_joinS : ∀ (ws : List (List UInt8)), ws ≠ [] → ws.all wordOk = true → cut (joinS ws) = ws := by
  intro ws
  induction ws with
  | nil => intro h; exact absurd rfl h
  | cons a r ih =>
    intro _ h
    simp only [List.all_cons, Bool.and_eq_true] at h
    cases r with
    | nil =>
      show cutG [] a = [a]
      have := cutG_word a (wordOk_low h.1) [] []
      rw [List.append_nil] at this
      rw [this]; rfl
    | cons b r =>
      rw [joinS_cons (by simp)]
      show cutG [] _ = _
      rw [cutG_word a (wordOk_low h.1) [] (47 :: joinS (b :: r))]
      rw [cutG, if_pos rfl]
      have := ih (by simp) h.2
      rw [cut] at this
      rw [this]; rfl
theorem joinS_snoc (k : List (List UInt8)) (n : List UInt8) : joinS (k ++ [n]) = if k = [] then n else joinS k ++ 47 :: n := by
  induction k with
  | nil => rfl
  | cons a r ih =>
    rw [if_neg (by simp), List.cons_append]
    rw [joinS_cons (by simp), ih]
    cases r with
    | nil => simp [joinS]
    | cons b r => rw [if_neg (by simp), joinS_cons (a := a) (by simp)]; simp
/-- the text ahead of the names in a directory -/
def startOf (k : List (List UInt8)) : List UInt8 := if k = [] then [] else joinS k ++ [47]
theorem joinS_start (k : List (List UInt8)) (n : List UInt8) : joinS (k ++ [n]) = startOf k ++ n := by
  rw [joinS_snoc]; unfold startOf; split <;> simp
/-- an item's parts -/
def key (x : It) : List (List UInt8) := cut (bl x.path)
theorem key_path {x y : It} (h : key x = key y) : x.path = y.path := bl_inj (cut_inj h)
theorem key_ne (x : It) : key x ≠ [] := cutG_ne _ _
theorem key_join (x : It) : joinS (key x) = bl x.path := joinS_cut _
def kin (k : List (List UInt8)) (x : It) : Bool := decide ((key x).dropLast = k)
/-- what is just in a directory -/
def kidsOf (l : List It) (k : List (List UInt8)) : List It := l.filter (kin k)
/-- what is in a directory, depth n -/
def flat (l : List It) : Nat → List (List UInt8) → List It
  | 0, _ => []
  | n + 1, k => (kidsOf l k).flatMap fun x => x :: flat l n (key x)
theorem itemOk_path {x : It} (h : itemOk x = true) : pathOk x.path = true := by simp [itemOk] at h; exact h.2.1
theorem key_ok {x : It} (h : pathOk x.path = true) : (key x).all wordOk = true ∧ (key x).length ≤ 4 := by
  simp only [pathOk, pathOkL, Bool.and_eq_true, decide_eq_true_eq] at h; exact h

/-! ### the last slash -/
theorem lastG_none (l : List UInt8) (h : 47 ∉ l) : ∀ k acc, lastG l k acc = acc := by
  induction l with
  | nil => intros; rfl
  | cons c cs ih =>
    intro k acc
    simp only [List.mem_cons, not_or] at h
    rw [lastG, if_neg (fun e => h.1 e.symm), ih h.2]
theorem lastG_some (a b : List UInt8) (h : 47 ∉ b) : ∀ k acc, lastG (a ++ 47 :: b) k acc = ((k + a.length : Nat) : Int) := by
  induction a with
  | nil => intro k acc; rw [List.nil_append, lastG, if_pos rfl, lastG_none b h]; simp
  | cons c cs ih => intro k acc; rw [List.cons_append, lastG, ih]; simp; omega
theorem slash_split (l : List UInt8) : 47 ∉ l ∨ ∃ a b, l = a ++ 47 :: b ∧ 47 ∉ b := by
  induction l with
  | nil => left; simp
  | cons c cs ih =>
    rcases ih with h | ⟨a, b, rfl, h⟩
    · by_cases hc : c = 47
      · subst hc; exact .inr ⟨[], cs, rfl, h⟩
      · left; simp only [List.mem_cons, not_or]; exact ⟨fun e => hc e.symm, h⟩
    · exact .inr ⟨c :: a, b, rfl, h⟩
theorem cutG_none (b : List UInt8) (h : 47 ∉ b) : ∀ cur, cutG cur b = [cur ++ b] := by
  induction b with
  | nil => intro cur; simp [cutG]
  | cons c cs ih =>
    intro cur
    simp only [List.mem_cons, not_or] at h
    rw [cutG, if_neg (fun e => h.1 e.symm), ih h.2]; simp
theorem cutG_app (a b : List UInt8) : ∀ cur, cutG cur (a ++ 47 :: b) = cutG cur a ++ cutG [] b := by
  induction a with
  | nil => intro cur; simp [cutG]
  | cons c cs ih =>
    intro cur
    rw [List.cons_append, cutG, cutG]
    split
    · rw [ih]; rfl
    · rw [ih]
theorem parent_join (p : ByteArray) : bl (parentB p) = joinS (cut (bl p)).dropLast := by
  have e : bl (parentB p) = (bl p).take (lastSlash (bl p)).toNat := by rw [parentB, bl_extract]; rfl
  rw [e]
  rcases slash_split (bl p) with h | ⟨a, b, h, hb⟩
  · rw [lastSlash, lastG_none _ h, cut, cutG_none _ h]; rfl
  · rw [lastSlash, h, lastG_some a b hb, cut, cutG_app, cutG_none b hb, List.dropLast_concat]
    rw [← cut, joinS_cut]
    simp
theorem joinS_eq_nil {k : List (List UInt8)} (h : k.all wordOk = true) : joinS k = [] ↔ k = [] := by
  constructor
  · intro e
    cases k with
    | nil => rfl
    | cons a r =>
      simp only [List.all_cons, Bool.and_eq_true] at h
      have ha : a ≠ [] := by rintro rfl; exact absurd h.1 (by decide)
      cases r with
      | nil => exact absurd e ha
      | cons b r => rw [joinS_cons (by simp)] at e; simp at e
  · rintro rfl; rfl
theorem all_dropLast {k : List (List UInt8)} (h : k.all wordOk = true) : k.dropLast.all wordOk = true := by
  rw [List.all_eq_true] at h ⊢
  exact fun x hx => h x ((List.dropLast_sublist k).subset hx)
theorem parent_nil {x : It} (h : pathOk x.path = true) : eqb (parentB x.path) emptyB = true ↔ (key x).dropLast = [] := by
  rw [eqb_iff, ← joinS_eq_nil (all_dropLast (key_ok h).1)]
  show _ ↔ joinS (cut (bl x.path)).dropLast = []
  rw [← parent_join]
  exact ⟨fun e => by rw [e]; rfl, fun e => bl_inj e⟩
theorem parent_key {x y : It} (hx : pathOk x.path = true) (hn : (key x).dropLast ≠ []) : y.path = parentB x.path ↔ key y = (key x).dropLast := by
  constructor
  · intro e
    show cut (bl y.path) = _
    rw [e, parent_join]
    exact cut_joinS _ hn (all_dropLast (key_ok hx).1)
  · intro e
    apply bl_inj
    rw [parent_join, ← key_join y, e]; rfl

/-! ### what grows item by item -/
/-- x fits behind l -/
def Fits (l : List It) (x : It) : Prop := itemOk x = true ∧ (∀ y, y ∈ l → lt8 (bl y.path) (bl x.path) = true) ∧ ((key x).dropLast = [] ∨ ∃ z, z ∈ l ∧ key z = (key x).dropLast ∧ z.dir = true)
def Grow (l : List It) : Prop := ∀ k x, l[k]? = some x → Fits (l.take k) x
theorem Grow.nil : Grow [] := fun k x h => by simp at h
theorem Grow.take {l : List It} (h : Grow l) (n : Nat) : Grow (l.take n) := fun k x hx => by
  rw [List.getElem?_take] at hx
  split at hx
  · next hk =>
    have := h k x hx
    rwa [List.take_take, Nat.min_eq_left (by omega)]
  · cases hx
theorem Grow.snoc {l : List It} {x : It} (h : Grow l) (hx : Fits l x) : Grow (l ++ [x]) := fun k y hy => by
  rcases Nat.lt_or_ge k l.length with hlt | hge
  · rw [List.getElem?_append_left hlt] at hy
    rw [List.take_append_of_le_length (by omega)]
    exact h k y hy
  · rw [List.getElem?_append_right hge] at hy
    have : k - l.length = 0 := by
      rcases Nat.eq_zero_or_pos (k - l.length) with h | h
      · exact h
      · rw [List.getElem?_eq_none (by simp; omega)] at hy; cases hy
    rw [this] at hy
    simp at hy
    subst hy
    have : k = l.length := by omega
    subst this
    simpa using hx
theorem Grow.init {l : List It} {x : It} (h : Grow (l ++ [x])) : Grow l ∧ Fits l x := by
  refine ⟨by simpa using h.take l.length, ?_⟩
  have := h l.length x (by simp)
  simpa using this
theorem grow_ind {P : List It → Prop} (h0 : P []) (h1 : ∀ l x, Grow l → Fits l x → P l → P (l ++ [x])) : ∀ l, Grow l → P l := by
  intro l
  generalize hn : l.length = n
  induction n generalizing l with
  | zero => intro _; rw [List.length_eq_zero_iff.1 hn]; exact h0
  | succ n ih =>
    intro hg
    have hne : l ≠ [] := by rintro rfl; simp at hn
    have e := List.dropLast_concat_getLast hne
    rw [← e] at hg ⊢
    have := hg.init
    exact h1 _ _ this.1 this.2 (ih _ (by simp [hn]) this.1)
theorem Grow.fits {l : List It} {x : It} (h : Grow l) (hx : x ∈ l) : itemOk x = true ∧ ((key x).dropLast = [] ∨ ∃ z, z ∈ l ∧ key z = (key x).dropLast ∧ z.dir = true) := by
  obtain ⟨k, hk⟩ := List.mem_iff_getElem?.1 hx
  obtain ⟨h1, -, h3⟩ := h k x hk
  exact ⟨h1, h3.imp_right fun ⟨z, hz, r⟩ => ⟨z, List.mem_of_mem_take hz, r⟩⟩
theorem Grow.lt {l : List It} (h : Grow l) {i j : Nat} {x y : It} (hx : l[i]? = some x) (hy : l[j]? = some y) (hij : i < j) : lt8 (bl x.path) (bl y.path) = true :=
  (h j y hy).2.1 x (List.mem_iff_getElem?.2 ⟨i, by rw [List.getElem?_take, if_pos hij]; exact hx⟩)
theorem Grow.inj {l : List It} (h : Grow l) {x y : It} (hx : x ∈ l) (hy : y ∈ l) (e : x.path = y.path) : x = y := by
  obtain ⟨i, hi⟩ := List.mem_iff_getElem?.1 hx
  obtain ⟨j, hj⟩ := List.mem_iff_getElem?.1 hy
  rcases Nat.lt_trichotomy i j with hl | rfl | hl
  · have := h.lt hi hj hl; rw [e, lt8_irrefl] at this; cases this
  · rw [hi] at hj; exact Option.some.inj hj
  · have := h.lt hj hi hl; rw [e, lt8_irrefl] at this; cases this
/-- the keys of a tree, the root's among them -/
def isKey (l : List It) (k : List (List UInt8)) : Prop := k = [] ∨ ∃ z, z ∈ l ∧ key z = k
theorem Grow.prefix_ {l : List It} (h : Grow l) : ∀ (k : List (List UInt8)), isKey l k → ∀ p, p <+: k → isKey l p := by
  intro k
  generalize hn : k.length = n
  induction n generalizing k with
  | zero => intro _ p hp; rw [List.length_eq_zero_iff.1 hn] at hp; left; simpa using hp
  | succ n ih =>
    intro hk p hp
    rcases hk with rfl | ⟨z, hz, rfl⟩
    · simp at hn
    · by_cases hpe : p = key z
      · exact .inr ⟨z, hz, hpe.symm⟩
      · have hp' : p <+: (key z).dropLast := by
          have e := List.dropLast_concat_getLast (key_ne z)
          rw [← e] at hp hpe
          exact (List.prefix_concat_iff.1 hp).resolve_left hpe
        refine ih _ (by simp [hn]) ?_ p hp'
        rcases (h.fits hz).2 with h' | ⟨y, hy, h', -⟩
        · exact .inl h'
        · exact .inr ⟨y, hy, h'⟩
theorem kidsOf_append (l : List It) (x : It) (k : List (List UInt8)) : kidsOf (l ++ [x]) k = kidsOf l k ++ (if (key x).dropLast = k then [x] else []) := by
  unfold kidsOf
  rw [List.filter_append]
  congr 1
  by_cases h : (key x).dropLast = k <;> simp [kin, h]
theorem mem_kids {l : List It} {k : List (List UInt8)} {x : It} : x ∈ kidsOf l k ↔ x ∈ l ∧ (key x).dropLast = k := by
  simp [kidsOf, kin]
theorem flat_none (l : List It) (k : List (List UInt8)) (h : ∀ x, x ∈ l → (key x).dropLast ≠ k) (n : Nat) : flat l n k = [] := by
  cases n with
  | zero => rfl
  | succ n =>
    have : kidsOf l k = [] := by
      rw [kidsOf, List.filter_eq_nil_iff]; intro x hx; simp [kin, h x hx]
    rw [flat, this]; rfl
theorem key_last {x : It} : key x = (key x).dropLast ++ [(key x).getLast (key_ne x)] := (List.dropLast_concat_getLast (key_ne x)).symm
end Go.Sf

/-! Plain facts on trees: a tree that grew item by item is listed in its own order; validity is growth. -/
namespace Go.Sf
open Go
theorem flatMap_congr' {α β : Type} {l : List α} {f g : α → List β} (h : ∀ a, a ∈ l → f a = g a) : l.flatMap f = l.flatMap g := by
  induction l with
  | nil => rfl
  | cons a l ih => rw [List.flatMap_cons, List.flatMap_cons, h a (by simp), ih fun b hb => h b (by simp [hb])]
theorem not_prefix_long {α : Type} {a b : List α} (h : b.length < a.length) : ¬ a <+: b := fun hp => by have := hp.length_le; omega
theorem key_path_eq (x : It) : bl x.path = startOf (key x).dropLast ++ (key x).getLast (key_ne x) := by
  rw [← key_join x]
  conv => lhs; rw [key_last (x := x)]
  rw [joinS_start]
theorem joinS_app (a b : List (List UInt8)) (ha : a ≠ []) (hb : b ≠ []) : joinS (a ++ b) = joinS a ++ 47 :: joinS b := by
  induction a with
  | nil => exact absurd rfl ha
  | cons x r ih =>
    cases r with
    | nil => rw [List.singleton_append, joinS_cons hb]; rfl
    | cons y r => rw [List.cons_append, joinS_cons (a := x) (by simp), ih (by simp), joinS_cons (a := x) (r := y :: r) (by simp)]; simp
/-- what is within an item comes ahead of the item's later siblings -/
theorem lt_within {a c x : It} (hc : pathOk c.path = true) (hs : (key a).dropLast = (key c).dropLast) (h : lt8 (bl a.path) (bl c.path) = true) (hp : key a <+: (key x).dropLast) : lt8 (bl x.path) (bl c.path) = true := by
  obtain ⟨r, hr⟩ := hp
  have e1 : key x = key a ++ (r ++ [(key x).getLast (key_ne x)]) := by rw [← List.append_assoc, hr, ← key_last]
  have e2 : bl x.path = bl a.path ++ 47 :: joinS (r ++ [(key x).getLast (key_ne x)]) := by
    rw [← key_join x, ← key_join a]
    conv => lhs; rw [e1]
    exact joinS_app _ _ (key_ne a) (by simp)
  have hl : ((key c).getLast (key_ne c)).all low = true := by
    have := (key_ok hc).1
    rw [List.all_eq_true] at this
    exact wordOk_low (this _ (List.getLast_mem _))
  rw [e2]
  rw [key_path_eq a, key_path_eq c, hs, lt8_append] at h
  rw [key_path_eq a, key_path_eq c, hs, List.append_assoc, lt8_append]
  exact lt8_within _ _ _ hl h
theorem flat_snoc {l : List It} {x : It} (hg : Grow l) (hx : Fits l x) : ∀ n k, 4 ≤ k.length + n → isKey l k →
    flat (l ++ [x]) n k = if k <+: (key x).dropLast then flat l n k ++ [x] else flat l n k := by
  have hxp := itemOk_path hx.1
  have hx4 := (key_ok hxp).2
  have hd : (key x).dropLast.length + 1 = (key x).length := by
    have := congrArg List.length (key_last (x := x)); simp only [List.length_append, List.length_singleton] at this; omega
  intro n
  induction n with
  | zero =>
    intro k hk _
    rw [if_neg (not_prefix_long (by omega))]; rfl
  | succ n ih =>
    intro k hk hkey
    have hkid : ∀ c, c ∈ kidsOf l k → (key c).length = k.length + 1 ∧ k <+: key c := fun c hc => by
      have h := (mem_kids.1 hc).2
      have e := key_last (x := c)
      rw [h] at e
      exact ⟨by rw [e]; simp, by rw [e]; exact List.prefix_append _ _⟩
    have hih : ∀ c, c ∈ kidsOf l k → flat (l ++ [x]) n (key c) = if key c <+: (key x).dropLast then flat l n (key c) ++ [x] else flat l n (key c) := fun c hc =>
      ih (key c) (by have := (hkid c hc).1; omega) (.inr ⟨c, (mem_kids.1 hc).1, rfl⟩)
    have hsame : (∀ c, c ∈ kidsOf l k → ¬ key c <+: (key x).dropLast) → (kidsOf l k).flatMap (fun c => c :: flat (l ++ [x]) n (key c)) = flat l (n + 1) k := fun h => by
      rw [flat]
      refine flatMap_congr' fun c hc => ?_
      rw [hih c hc, if_neg (h c hc)]
    rw [flat, kidsOf_append]
    by_cases hA : (key x).dropLast = k
    · rw [if_pos hA, if_pos (by rw [hA]; exact List.prefix_refl _), List.flatMap_append, hsame fun c hc => by rw [hA]; exact not_prefix_long (by have := (hkid c hc).1; omega)]
      congr 1
      rw [List.flatMap_singleton]
      rw [flat_none]
      intro y hy e
      rw [List.mem_append, List.mem_singleton] at hy
      rcases hy with hy | rfl
      · rcases (hg.fits hy).2 with h | ⟨z, hz, h, -⟩
        · rw [e] at h; exact key_ne x h
        · rw [e] at h
          have := hx.2.1 z hz
          rw [key_path h, lt8_irrefl] at this; cases this
      · have := congrArg List.length e; omega
    · rw [if_neg hA, List.append_nil]
      by_cases hB : k <+: (key x).dropLast
      · rw [if_pos hB]
        obtain ⟨r, hr⟩ := hB
        have hrne : r ≠ [] := by rintro rfl; rw [List.append_nil] at hr; exact hA hr.symm
        obtain ⟨m, r', rfl⟩ := List.exists_cons_of_ne_nil hrne
        have hxk : isKey l (key x).dropLast := hx.2.2.imp_right fun ⟨z, hz, h, _⟩ => ⟨z, hz, h⟩
        have hpre : k ++ [m] <+: (key x).dropLast := ⟨r', by rw [← hr]; simp⟩
        obtain h0 | ⟨a, ha, hak⟩ := hg.prefix_ _ hxk _ hpre
        · simp at h0
        have hak' : a ∈ kidsOf l k := mem_kids.2 ⟨ha, by rw [hak]; simp⟩
        obtain ⟨i, hi⟩ := List.mem_iff_getElem?.1 hak'
        -- a is the last of the kids
        have hlast : ∀ c, c ∈ kidsOf l k → c ≠ a → lt8 (bl c.path) (bl a.path) = true := fun c hc hne => by
          cases h1 : lt8 (bl c.path) (bl a.path) with
          | true => rfl
          | false =>
            cases h2 : lt8 (bl a.path) (bl c.path) with
            | true =>
              have hcl := (mem_kids.1 hc).1
              have := lt_within (x := x) (itemOk_path (hg.fits hcl).1) (by rw [hak, (mem_kids.1 hc).2]; simp) h2 (by rw [hak]; exact hpre)
              have h3 := hx.2.1 c hcl
              rw [lt8_asymm h3] at this; cases this
            | false => exact absurd (hg.inj (mem_kids.1 hc).1 ha (bl_inj (lt8_total _ _ h1 h2))) hne
        have hsub : ∀ {L : List It}, L.Sublist l → L.Pairwise fun x y => lt8 (bl x.path) (bl y.path) = true := fun {L} hL => by
          refine List.Pairwise.sublist hL ?_
          rw [List.pairwise_iff_getElem]
          intro i j hi hj hij
          exact hg.lt (List.getElem?_eq_getElem hi) (List.getElem?_eq_getElem hj) hij
        obtain ⟨L1, L2, hL⟩ := List.append_of_mem hak'
        have hpw := hsub (List.filter_sublist (p := kin k) (l := l))
        change (kidsOf l k).Pairwise _ at hpw
        rw [hL] at hpw
        have hL2 : L2 = [] := by
          cases L2 with
          | nil => rfl
          | cons c L2 =>
            rw [List.pairwise_append] at hpw
            have h1 := (List.pairwise_cons.1 hpw.2.1).1 c (by simp)
            have h2 := hlast c (by rw [hL]; simp) (by rintro rfl; rw [lt8_irrefl] at h1; cases h1)
            rw [lt8_asymm h1] at h2; cases h2
        subst hL2
        have h1 : ∀ c, c ∈ L1 → ¬ key c <+: (key x).dropLast := fun c hc hp => by
          have hck : c ∈ kidsOf l k := by rw [hL]; simp [hc]
          have hlen : (key c).length = (k ++ [m]).length := by rw [(hkid c hck).1]; simp
          have e : key c = key a := by rw [hak]; exact (List.prefix_of_prefix_length_le hp hpre (by omega)).eq_of_length hlen
          have := (List.pairwise_append.1 hpw).2.2 c hc a (by simp)
          rw [key_path e, lt8_irrefl] at this; cases this
        rw [flat, hL, List.flatMap_append, List.flatMap_append, List.flatMap_singleton, List.flatMap_singleton, hih a hak', if_pos (by rw [hak]; exact hpre)]
        rw [← List.cons_append, ← List.append_assoc]
        congr 2
        refine flatMap_congr' fun c hc => ?_
        rw [hih c (by rw [hL]; simp [hc]), if_neg (h1 c hc)]
      · rw [if_neg hB]
        exact hsame fun c hc hp => hB ((hkid c hc).2.trans hp)
theorem flat_list : ∀ l, Grow l → flat l 4 [] = l := by
  refine grow_ind ?_ ?_
  · rfl
  · intro l x hg hx ih
    rw [flat_snoc hg hx 4 [] (by simp) (.inl rfl), if_pos (List.nil_prefix), ih]
end Go.Sf

/-! A tree is valid just where it grew item by item. -/
namespace Go.Sf
open Go
theorem findIt_some {l : List It} {p : ByteArray} {y : It} (h : findIt l p = some y) : y ∈ l ∧ y.path = p := by
  unfold findIt at h
  have h1 := List.mem_of_find?_eq_some h
  have h2 := List.find?_some h
  exact ⟨h1, eqb_iff.1 h2⟩
theorem findIt_none {l : List It} {p : ByteArray} (h : findIt l p = none) : ∀ y, y ∈ l → y.path ≠ p := by
  unfold findIt at h
  rw [List.find?_eq_none] at h
  intro y hy e
  exact h y hy (eqb_iff.2 e)
theorem Grow.find {l : List It} (h : Grow l) {y : It} (hy : y ∈ l) : findIt l y.path = some y := by
  cases hf : findIt l y.path with
  | none => exact absurd rfl (findIt_none hf y hy)
  | some z => have := findIt_some hf; rw [h.inj this.1 hy this.2]
theorem parent_lt {x : It} (h : (key x).dropLast ≠ []) : lt8 (bl (parentB x.path)) (bl x.path) = true := by
  rw [key_path_eq x, parent_join]
  show lt8 (joinS (key x).dropLast) _ = true
  rw [startOf, if_neg h, List.append_assoc]
  exact lt8_longer _ _ _
theorem asc_of {l : List It} (h : ∀ k x y, l[k]? = some x → l[k + 1]? = some y → lt8 (bl x.path) (bl y.path) = true) : ∀ d i x y, l[i]? = some x → l[i + 1 + d]? = some y → lt8 (bl x.path) (bl y.path) = true := by
  intro d
  induction d with
  | zero => exact h
  | succ d ih =>
    intro i x y hx hy
    have hlt : i + 1 + d < l.length := by
      have : i + 1 + (d + 1) < l.length := by
        rcases Nat.lt_or_ge (i + 1 + (d + 1)) l.length with h | h
        · exact h
        · rw [List.getElem?_eq_none h] at hy; cases hy
      omega
    have hz := List.getElem?_eq_getElem hlt
    exact lt8_trans _ _ _ (ih i x _ hx hz) (h _ _ _ hz hy)
theorem home_take {l : List It} {k : Nat} {x : It} (hx : pathOk x.path = true) :
    (∀ y, y ∈ l.take k → y.path = parentB x.path → findIt (l.take k) y.path = some y) → (homeOk (l.take k) x.path = true ↔ ((key x).dropLast = [] ∨ ∃ z, z ∈ l.take k ∧ key z = (key x).dropLast ∧ z.dir = true)) := by
  intro hf
  unfold homeOk
  rw [Bool.or_eq_true, parent_nil hx]
  by_cases hn : (key x).dropLast = []
  · simp [hn]
  · simp only [hn, false_or]
    unfold dirAt
    constructor
    · intro h
      cases hq : findIt (l.take k) (parentB x.path) with
      | none => rw [hq] at h; cases h
      | some z =>
        rw [hq] at h
        exact ⟨z, (findIt_some hq).1, (parent_key hx hn).1 (findIt_some hq).2, h⟩
    · rintro ⟨z, hz, h1, h2⟩
      have e := (parent_key hx hn).2 h1
      have := hf z hz e
      rw [e] at this
      rw [this]; exact h2
theorem treeOk_grow {l : List It} : TreeOk l ↔ l.length ≤ 12 ∧ Grow l := by
  unfold TreeOk
  refine and_congr_right fun _ => ?_
  constructor
  · intro h
    have hasc : ∀ (i j : Nat) (x y : It), l[i]? = some x → l[j]? = some y → i < j → lt8 (bl x.path) (bl y.path) = true := fun i j x y hx hy hij => by
      refine asc_of (fun k x y hx hy => ?_) (j - (i + 1)) i x y hx (by rw [← hy]; congr 1; omega)
      rw [← blt_eq]; exact (h (k + 1) y hy).2.1 k x rfl hx
    intro k x hx
    obtain ⟨h1, h2, h3⟩ := h k x hx
    have hp := itemOk_path h1
    refine ⟨h1, fun y hy => ?_, ?_⟩
    · obtain ⟨i, hi⟩ := List.mem_iff_getElem?.1 hy
      rw [List.getElem?_take] at hi
      split at hi
      · next hik => exact hasc i k y x hi hx hik
      · cases hi
    · unfold homeOk at h3
      rw [Bool.or_eq_true, parent_nil hp] at h3
      refine h3.imp_right fun h3 => ?_
      by_cases hn : (key x).dropLast = []
      · rw [(parent_nil hp).2 hn |> eqb_iff.1] at h3
        unfold dirAt at h3
        cases hq : findIt l emptyB with
        | none => rw [hq] at h3; cases h3
        | some z =>
          have hz := findIt_some hq
          obtain ⟨j, hj⟩ := List.mem_iff_getElem?.1 hz.1
          have := itemOk_path (h j z hj).1
          rw [hz.2] at this
          exact absurd this (by decide)
      · unfold dirAt at h3
        cases hq : findIt l (parentB x.path) with
        | none => rw [hq] at h3; cases h3
        | some z =>
          rw [hq] at h3
          have hz := findIt_some hq
          obtain ⟨j, hj⟩ := List.mem_iff_getElem?.1 hz.1
          have hlt := parent_lt hn
          have hjk : j < k := by
            rcases Nat.lt_or_ge j k with h | h
            · exact h
            · exfalso
              rw [← hz.2] at hlt
              rcases Nat.lt_or_ge k j with h' | h'
              · have := hasc k j x z hx hj h'
                rw [lt8_asymm hlt] at this; cases this
              · have : j = k := by omega
                subst this
                rw [hj] at hx
                rw [Option.some.inj hx, lt8_irrefl] at hlt; cases hlt
          exact ⟨z, List.mem_iff_getElem?.2 ⟨j, by rw [List.getElem?_take, if_pos hjk]; exact hj⟩, (parent_key hp hn).1 hz.2, h3⟩
  · intro hg k x hx
    obtain ⟨h1, h2, h3⟩ := hg k x hx
    have hp := itemOk_path h1
    refine ⟨h1, fun j y hk hy => ?_, ?_⟩
    · rw [blt_eq]; exact hg.lt hy hx (by omega)
    · have := (home_take (k := l.length) (l := l) hp (fun y hy _ => by rw [List.take_length] at hy ⊢; exact hg.find hy)).2
      rw [List.take_length] at this
      exact this (h3.imp_right fun ⟨z, hz, r⟩ => ⟨z, List.mem_of_mem_take hz, r⟩)
theorem treeOk_iff' {l : List It} : treeOk l = true ↔ l.length ≤ 12 ∧ Grow l := treeOk_iff.trans treeOk_grow
end Go.Sf

/-! The library's Split at one slash is the plain cut. -/
namespace Go.Sf
open Go
theorem slash_first (l : List UInt8) : 47 ∉ l ∨ ∃ a b, l = a ++ 47 :: b ∧ 47 ∉ a := by
  induction l with
  | nil => left; simp
  | cons c cs ih =>
    by_cases hc : c = 47
    · subst hc; exact .inr ⟨[], cs, rfl, by simp⟩
    · rcases ih with h | ⟨a, b, rfl, h⟩
      · left; simp only [List.mem_cons, not_or]; exact ⟨fun e => hc e.symm, h⟩
      · exact .inr ⟨c :: a, b, rfl, by simp only [List.mem_cons, not_or]; exact ⟨fun e => hc e.symm, h⟩⟩
theorem index_none (l : List UInt8) (h : 47 ∉ l) : Lib.index l [47] = -1 := by
  induction l with
  | nil => rfl
  | cons c cs ih =>
    simp only [List.mem_cons, not_or] at h
    have e : (47 == c) = false := by rw [beq_eq_false_iff_ne]; exact h.1
    rw [Lib.index, ih h.2]
    simp [List.isPrefixOf, e]
theorem index_some (a b : List UInt8) (h : 47 ∉ a) : Lib.index (a ++ 47 :: b) [47] = a.length := by
  induction a with
  | nil => rw [List.nil_append, Lib.index]; simp [List.isPrefixOf]
  | cons c cs ih =>
    simp only [List.mem_cons, not_or] at h
    have e : (47 == c) = false := by rw [beq_eq_false_iff_ne]; exact h.1
    rw [List.cons_append, Lib.index, ih h.2]
    have e2 : ((cs.length : Int) == -1) = false := by rw [beq_eq_false_iff_ne]; omega
    simp [List.isPrefixOf, e, e2]
theorem split_cut : ∀ (n : Nat) (l : List UInt8), l.length ≤ n → Lib.splitK [47] 0 (Lib.count l [47]) l = cut l := by
  intro n
  induction n with
  | zero =>
    intro l hl
    rw [List.length_eq_zero_iff.1 (Nat.le_zero.1 hl)]
    rfl
  | succ n ih =>
    intro l hl
    rcases slash_first l with h | ⟨a, b, rfl, h⟩
    · rw [Lib.count_miss (index_none l h)]
      rw [cut, cutG_none _ h]; rfl
    · have hi := index_some a b h
      rw [Lib.count_hit (by simp) hi]
      have hm : ¬ (Lib.index (a ++ 47 :: b) [47] == -1) = true := fun e => by have := beq_iff_eq.1 e; omega
      rw [Nat.add_comm, Lib.splitK, if_neg hm, hi]
      have hdrop : (a ++ 47 :: b).drop (a.length + ([47] : List UInt8).length) = b := by simp
      have htake : (a ++ 47 :: b).take (((a.length : Int)).toNat + 0) = a := by simp
      rw [htake, Int.toNat_natCast, hdrop, ih b (by simp at hl; omega)]
      rw [cut, cut, cutG_app, cutG_none a h]; rfl
def slashB : ByteArray := ⟨#[47]⟩
theorem splitB_cut (s : ByteArray) : (Lib.splitB slashB 0 (Lib.countB s slashB) s).map bl = cut (bl s) := by
  have := Lib.splitB_data slashB 0 (Lib.countB s slashB) s
  rw [← split_cut _ (bl s) (Nat.le_refl _)]
  exact this
end Go.Sf
