/- Blocks put into a store, files cut and stored: plain. -/
import Derived.Test.YtdnnojghjnjnfaaGreatDoorGT
import Derived.Test.YtdnnojghjnjnfaaGreatDoorT89
namespace Go.Sf
open Go Go.RowKit
def fileOk (bs : List Int) : Bool := bs.all byteOk && decide (bs.length ≤ 32)
def likeIs (bs : List Int) (h : Hd) : Bool := eqb h.bytes bs
def likeAt (l : List Hd) (bs : List Int) : Int := atG (likeIs bs) l 0
def freeGo (l : List Hd) : Nat → Int → Int
  | 0, i => i
  | n + 1, i => if 0 ≤ hAt l i then freeGo l n (i + 1) else i
/-- the least id that no block has -/
def freeId (l : List Hd) : Int := freeGo l 100 1
/-- a block put at its place -/
def withHd (x : Hd) : List Hd → List Hd
  | [] => [x]
  | y :: r => if x.id < y.id then x :: y :: r else y :: withHd x r
def moreOne (y : Hd) : Hd := { y with uses := y.uses + 1 }
/-- a store with a block more, or used once more; and its id -/
def putSt (l : List Hd) (bs : List Int) : List Hd × Int := match l.find? (likeIs bs) with
  | some y => (l.set (likeAt l bs).toNat (moreOne y), y.id)
  | none => (withHd ⟨freeId l, bs, 1⟩ l, freeId l)
noncomputable def storePut (l : List Hd) (bs : List Int) : Option (List Hd × Int) :=
  if storeOk l = true ∧ blockOk bs = true ∧ storeOk (putSt l bs).1 = true then some (putSt l bs) else none
/-- the blocks of a file -/
def cutB (bs : List Int) : List (List Int) := (List.range ((bs.length + 7) / 8)).map fun k => (bs.drop (8 * k)).take 8
noncomputable def putBs : List Hd → List (List Int) → Option (List Hd × List Int)
  | l, [] => some (l, [])
  | l, b :: r => (storePut l b).bind fun p => (putBs p.1 r).map fun q => (q.1, p.2 :: q.2)
noncomputable def fileStore (l : List Hd) (bs : List Int) : Option (List Hd × List Int) := if storeOk l = true ∧ fileOk bs = true then putBs l (cutB bs) else none
/-- a store and a tree with a file written -/
noncomputable def writeT (s : List Hd) (t : List It) (p : ByteArray) (bs : List Int) : Option (List Hd × List It) :=
  (fileStore s bs).bind fun q => (treePut t ⟨p, false, q.2⟩).map fun t' => ((fileOf t p).elim q.1 fun x => (freeAll q.1 x.ids).getD [], t')
noncomputable def volWrite (s : List Hd) (t : List It) (p : ByteArray) (bs : List Int) : Option (List Hd × List It) := if volOk s t = true ∧ fileOk bs = true then writeT s t p bs else none
theorem withHd_len (x : Hd) : ∀ l : List Hd, (withHd x l).length = l.length + 1 := by
  intro l
  induction l with
  | nil => rfl
  | cons y r ih => unfold withHd; split <;> simp [ih]
theorem freeGo_stop {l : List Hd} {n : Nat} {i : Int} (h : ¬ 0 ≤ hAt l i) : freeGo l n i = i := by
  cases n with
  | zero => rfl
  | succ n => unfold freeGo; rw [if_neg h]
theorem freeGo_go {l : List Hd} {n : Nat} {i : Int} (h : 0 ≤ hAt l i) : freeGo l (n + 1) i = freeGo l n (i + 1) := by
  rw [freeGo, if_pos h]
theorem hAt_in {l : List Hd} {i : Int} (h : 0 ≤ hAt l i) : ∃ x, x ∈ l ∧ x.id = i := by
  rcases atG_find (idIs i) l 0 with ⟨-, h2⟩ | ⟨k, y, h1, h2, -, -, -⟩
  · rw [hAt, h2] at h; omega
  · exact ⟨y, List.mem_of_getElem? h1, by simpa [idIs, eqb_iff] using h2⟩
theorem hAt_high {l : List Hd} (h : StoreOk l) {i : Int} (hi : 0 ≤ hAt l i) : 1 ≤ i ∧ i ≤ 99 := by
  obtain ⟨x, hx, rfl⟩ := hAt_in hi
  obtain ⟨k, hk⟩ := List.mem_iff_getElem?.1 hx
  exact (hd_ok (h.2 k x hk).1).1
theorem freeGo_range {l : List Hd} (_h : StoreOk l) : ∀ (n : Nat) (i : Int), 1 ≤ i → i + n ≤ 101 → 1 ≤ freeGo l n i ∧ freeGo l n i ≤ 101 := by
  intro n
  induction n with
  | zero => intro i h1 h2; exact ⟨h1, by simp only [freeGo]; omega⟩
  | succ n ih =>
    intro i h1 h2
    unfold freeGo
    split
    · exact ih (i + 1) (by omega) (by omega)
    · exact ⟨h1, by omega⟩
theorem freeId_range {l : List Hd} (h : StoreOk l) : 1 ≤ freeId l ∧ freeId l ≤ 101 := freeGo_range h 100 1 (by omega) (by omega)
theorem cutB_take (bs : List Int) (k : Nat) (hk : k < (bs.length + 7) / 8) : (cutB bs).take (k + 1) = (cutB bs).take k ++ [(bs.drop (8 * k)).take 8] := by
  rw [List.take_add_one]
  congr 1
  unfold cutB
  rw [List.getElem?_map, List.getElem?_range hk]; rfl
theorem cutB_len (bs : List Int) : (cutB bs).length = (bs.length + 7) / 8 := by simp [cutB]
theorem putBs_step {l : List Hd} {b : List Int} {r : List (List Int)} : putBs l (b :: r) = (storePut l b).bind fun p => (putBs p.1 r).map fun q => (q.1, p.2 :: q.2) := rfl
end Go.Sf
