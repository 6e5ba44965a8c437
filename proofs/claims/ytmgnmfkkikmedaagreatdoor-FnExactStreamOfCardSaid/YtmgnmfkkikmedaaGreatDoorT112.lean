/- How many blocks of a disk are shared: the reference and the program. -/
import Derived.Test.YtmgnmfkkikmedaaGreatDoorT97
import Derived.Test.YtmgnmfkkikmedaaGreatDoorT110
import Derived.Test.YtmgnmfkkikmedaaGreatDoorT111
namespace Go.Sf
open Go Go.RowKit Go.Proofs Go.Maps
theorem filter_take {α : Type} {p : α → Bool} {l : List α} {k : Nat} {x : α} (h : l[k]? = some x) : ((l.take (k + 1)).filter p).length = ((l.take k).filter p).length + if p x = true then 1 else 0 := by
  rw [List.take_add_one, h, Option.toList_some, List.filter_append, List.length_append]
  by_cases e : p x = true
  · rw [if_pos e, List.filter_cons_of_pos e]; rfl
  · rw [if_neg e, List.filter_cons_of_neg e]; rfl
theorem filter_take_le {α : Type} (p : α → Bool) (l : List α) (k : Nat) : ((l.take k).filter p).length ≤ k := Nat.le_trans (List.length_filter_le _ _) (by rw [List.length_take]; omega)
def sharedP (h : Hd) : Bool := decide (1 < h.uses)
def sharedN (s : List Hd) : Nat := (s.filter sharedP).length
noncomputable def countSh (s : List Hd) (t : List It) (l : List Sn) : Int := if diskOk s t l = true then (sharedN s : Int) else -1
end Go.Sf
