/- Disks, plain: what is asked of them in the program's order; what is read of them. -/
import Derived.Test.YtdnnojghjnjnfaaGreatDoorT94
import Derived.Test.YtdnnojghjnjnfaaGreatDoorT89
namespace Go.Sf
open Go Go.RowKit Go.Proofs
/-- what the program asks of the snapshot at k, the store apart -/
def SnAtI (l : List Sn) (k : Nat) (x : Sn) : Prop := treeOk x.tree = true ∧ wordOk (bl x.name) = true ∧ ∀ (j : Nat) (y : Sn), j < k → l[j]? = some y → y.name ≠ x.name
def SnapsI (l : List Sn) : Prop := l.length ≤ 6 ∧ ∀ (k : Nat) (x : Sn), l[k]? = some x → SnAtI l k x
theorem diskOk_iff {s : List Hd} {t : List It} {l : List Sn} : diskOk s t l = true ↔ storeOk s = true ∧ treeOk t = true ∧ SnapsI l ∧ usedOk s (treesOf t l) = true := by
  have h2 : ((treesOf t l).all fun t => filesFit s t) = true ↔ filesFit s t = true ∧ ∀ x, x ∈ l → filesFit s x.tree = true := by
    unfold treesOf
    simp only [List.all_cons, Bool.and_eq_true, List.all_eq_true, List.mem_map]
    constructor
    · rintro ⟨h1, h2⟩; exact ⟨h1, fun x hx => h2 _ ⟨x, hx, rfl⟩⟩
    · rintro ⟨h1, h2⟩; exact ⟨h1, by rintro _ ⟨x, hx, rfl⟩; exact h2 x hx⟩
  unfold diskOk usedOk
  simp only [Bool.and_eq_true, snapsOk_iff, h2]
  unfold SnapsOk SnapsI SnAt SnAtI diskUses
  constructor
  · rintro ⟨h1, h3, h4, ⟨h5, h6⟩, h7⟩
    refine ⟨h1, h3, ⟨h5, fun k x hx => ?_⟩, ⟨h4, fun x hx => ?_⟩, h7⟩
    · obtain ⟨a, b, c, d⟩ := h6 k x hx; exact ⟨c, a, b⟩
    · obtain ⟨k, hk⟩ := List.mem_iff_getElem?.1 hx; exact (h6 k x hk).2.2.2
  · rintro ⟨h1, h3, ⟨h5, h6⟩, ⟨h4, h8⟩, h7⟩
    refine ⟨h1, h3, h4, ⟨h5, fun k x hx => ?_⟩, h7⟩
    obtain ⟨a, b, c⟩ := h6 k x hx
    exact ⟨b, c, a, h8 x (List.mem_of_getElem? hx)⟩
theorem fits_all {s : List Hd} {t : List It} (h : filesFit s t = true) : ∀ x, x ∈ t → IdsFit s x.ids := fun x hx => idsFit_iff.1 (by
  unfold filesFit at h
  exact List.all_eq_true.1 h x hx)
theorem disk_parts {s : List Hd} {t : List It} {l : List Sn} (h : diskOk s t l = true) : StoreOk s ∧ treeOk t = true ∧ (∀ x, x ∈ t → IdsFit s x.ids) ∧ l.length ≤ 6 ∧
    ∀ y, y ∈ l → wordOk (bl y.name) = true ∧ treeOk y.tree = true ∧ ∀ x, x ∈ y.tree → IdsFit s x.ids := by
  unfold diskOk at h
  simp only [Bool.and_eq_true, snapsOk_iff] at h
  obtain ⟨h1, h2, h3, ⟨h4, h5⟩, -⟩ := h
  refine ⟨storeOk_iff.1 h1, h2, fits_all h3, h4, fun y hy => ?_⟩
  obtain ⟨k, hk⟩ := List.mem_iff_getElem?.1 hy
  obtain ⟨a, -, c, d⟩ := h5 k y hk
  exact ⟨a, c, fits_all d⟩
/-- the last snapshot with a file -/
def lastStep (p : ByteArray) (a : ByteArray) (x : Sn) : ByteArray := if (fileOf x.tree p).isSome then x.name else a
def lastSn (l : List Sn) (p : ByteArray) : ByteArray := l.foldl (lastStep p) ⟨#[]⟩
theorem foldl_take {α β : Type} (f : β → α → β) (a : β) {l : List α} {k : Nat} {x : α} (h : l[k]? = some x) : (l.take (k + 1)).foldl f a = f ((l.take k).foldl f a) x := by
  rw [List.take_add_one, h, Option.toList_some, List.foldl_append]; rfl
/-- the file of a snapshot -/
noncomputable def readSn (s : List Hd) (t : List It) (l : List Sn) (n p : ByteArray) : Option (List Int) :=
  if diskOk s t l = true then (l.find? (snIs n)).bind fun y => (fileOf y.tree p).map fun x => loadOf s x.ids else none
end Go.Sf
