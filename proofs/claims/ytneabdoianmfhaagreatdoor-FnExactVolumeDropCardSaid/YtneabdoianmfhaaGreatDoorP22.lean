/- An item is put where none is, or taken away: plain. -/
import Derived.Test.YtneabdoianmfhaaGreatDoorGI
import Derived.Test.YtneabdoianmfhaaGreatDoorP20
import Derived.Test.YtneabdoianmfhaaGreatDoorGE
namespace Go.Sf
open Go Go.RowKit
/-- what comes ahead of an item that is put -/
def aheadOf (x : It) (l : List It) : List It := l.takeWhile fun y => blt y.path x.path
def behindOf (x : It) (l : List It) : List It := l.dropWhile fun y => blt y.path x.path
theorem putIt_split {x : It} : ∀ {l : List It}, (∀ y, y ∈ l → y.path ≠ x.path) → putIt x l = aheadOf x l ++ x :: behindOf x l := by
  intro l
  induction l with
  | nil => intro _; rfl
  | cons y r ih =>
    intro h
    unfold aheadOf behindOf at *
    rw [putIt]
    split
    case isTrue hb =>
      rw [List.takeWhile_cons_of_pos (p := fun z : It => blt z.path x.path) hb, List.dropWhile_cons_of_pos (p := fun z : It => blt z.path x.path) hb, List.cons_append, ← ih fun z hz => h z (by simp [hz])]
    case isFalse hb =>
      rw [List.takeWhile_cons_of_neg (p := fun z : It => blt z.path x.path) hb, List.dropWhile_cons_of_neg (p := fun z : It => blt z.path x.path) hb, List.nil_append, filter_same h]
theorem ahead_behind (x : It) (l : List It) : aheadOf x l ++ behindOf x l = l := List.takeWhile_append_dropWhile
theorem kids_put {x : It} {l : List It} (h : ∀ y, y ∈ l → y.path ≠ x.path) (k : Key) : kidsOf (putIt x l) k = if (key x).dropLast = k then kidsOf (aheadOf x l) k ++ x :: kidsOf (behindOf x l) k else kidsOf l k := by
  rw [putIt_split h]
  unfold kidsOf
  rw [List.filter_append]
  by_cases e : (key x).dropLast = k
  · rw [if_pos e, List.filter_cons_of_pos (by simp [kin, e])]
  · rw [if_neg e, List.filter_cons_of_neg (by simp [kin, e]), ← List.filter_append, ahead_behind]
theorem kids_split (x : It) (l : List It) (k : Key) : kidsOf l k = kidsOf (aheadOf x l) k ++ kidsOf (behindOf x l) k := by
  unfold kidsOf
  rw [← List.filter_append, ahead_behind]
theorem path_names {y x : It} (h : (key y).dropLast = (key x).dropLast) : blt (nameOf (key y)) (nameOf (key x)) = blt y.path x.path := by
  rw [blt_eq, blt_eq, key_path_eq y, key_path_eq x, h, lt8_append, nameOf_key, nameOf_key, bl_mkB, bl_mkB]
/-- where a new name stands among those of its directory -/
theorem lb_put {x : It} {l : List It} (hs : Srt l) : lbB (namesOf l (key x).dropLast) (nameOf (key x)) = (kidsOf (aheadOf x l) (key x).dropLast).length := by
  have hk := kids_split x l (key x).dropLast
  refine lbB_of (by unfold namesOf; rw [List.length_map, hk, List.length_append]; omega) (fun j nm hj hn => ?_) (fun nm hn => ?_)
  · unfold namesOf at hn
    rw [List.getElem?_map, Option.map_eq_some_iff] at hn
    obtain ⟨y, hy, rfl⟩ := hn
    rw [hk, List.getElem?_append_left hj] at hy
    have hy' := mem_kids.1 (List.mem_of_getElem? hy)
    rw [path_names hy'.2]
    exact List.all_eq_true.1 (List.all_takeWhile (p := fun z : It => blt z.path x.path) (l := l)) y hy'.1
  · unfold namesOf at hn
    rw [List.getElem?_map, Option.map_eq_some_iff] at hn
    obtain ⟨y, hy, rfl⟩ := hn
    rw [hk, List.getElem?_append_right (Nat.le_refl _)] at hy
    have hy' := mem_kids.1 (List.mem_of_getElem? hy)
    rw [path_names hy'.2]
    have hd : (behindOf x l).Pairwise fun a b => blt a.path b.path = true := hs.sublist (List.dropWhile_sublist _)
    cases hb : behindOf x l with
    | nil => rw [hb] at hy'; simp at hy'
    | cons z r =>
      have hz : ¬ blt z.path x.path = true := by
        have := List.head?_dropWhile_not (p := fun a : It => blt a.path x.path) (l := l)
        unfold behindOf at hb
        rw [hb] at this
        simpa using this
      rw [hb] at hd hy'
      rcases List.mem_cons.1 hy'.1 with rfl | hyr
      · simpa using hz
      · cases hc : blt y.path x.path with
        | false => rfl
        | true => exact absurd (blt_tr ((List.pairwise_cons.1 hd).1 y hyr) hc) hz
theorem put_length {x : It} {l : List It} (h : ∀ y, y ∈ l → y.path ≠ x.path) : (putIt x l).length = l.length + 1 := by
  rw [(putIt_perm h).length_eq]; rfl
theorem mem_put {x z : It} {l : List It} (hs : Srt l) (h : ∀ y, y ∈ l → y.path ≠ x.path) : z ∈ putIt x l ↔ z = x ∨ z ∈ l := by
  rw [mem_putIt hs]
  exact ⟨fun q => q.imp_right (·.1), fun q => q.imp_right fun hz => ⟨hz, h z hz⟩⟩
/-- where an item may be put -/
theorem put_new {l : List It} {x : It} (ht : treeOk l = true) (hx : itemOk x = true) (hn : ∀ y, y ∈ l → y.path ≠ x.path) : treeOk (putIt x l) = true ↔ l.length < 12 ∧ isDir l (key x).dropLast := by
  obtain ⟨-, hs, hf⟩ := tree_set.1 ht
  rw [tree_set, put_length hn]
  constructor
  · rintro ⟨h1, -, h3⟩
    refine ⟨by omega, ?_⟩
    rcases (h3 x ((mem_put hs hn).2 (.inl rfl))).2 with h0 | ⟨z, hz, hk, hd⟩
    · exact .inl h0
    · rcases (mem_put hs hn).1 hz with rfl | hz
      · have := congrArg List.length hk
        have h2 := congrArg List.length (key_last (x := z))
        simp only [List.length_append, List.length_singleton] at h2
        omega
      · exact .inr ⟨z, hz, hk, hd⟩
  · rintro ⟨h1, h2⟩
    refine ⟨by omega, putIt_srt' hs, fun y hy => ?_⟩
    have up : ∀ y, Home l y → Home (putIt x l) y := fun y h => h.imp_right fun ⟨z, hz, r⟩ => ⟨z, (mem_put hs hn).2 (.inr hz), r⟩
    rcases (mem_put hs hn).1 hy with rfl | hy
    · exact ⟨hx, up _ h2⟩
    · exact ⟨(hf y hy).1, up _ (hf y hy).2⟩
def dirIt (p : ByteArray) : It := ⟨p, true, []⟩
/-- a tree with a directory more -/
noncomputable def dirAdd (l : List It) (p : ByteArray) : Option (List It) :=
  if treeOk l = true ∧ pathOk p = true ∧ findIt l p = none ∧ treeOk (putIt (dirIt p) l) = true then some (putIt (dirIt p) l) else none
theorem dirIt_ok {p : ByteArray} (h : pathOk p = true) : itemOk (dirIt p) = true := by
  unfold itemOk dirIt idsOk
  simp [h]
/-- a volume with a directory more -/
noncomputable def volDir (s : List Hd) (t : List It) (p : ByteArray) : Option (List It) := if volOk s t = true then dirAdd t p else none
end Go.Sf
