/- Trees of nodes in memory: which items they bear. -/
import Derived.Test.YtfpkllihfcgmaaaDoorT11
import Derived.Test.YtfpkllihfcgmaaaDoorP5
import Derived.Test.YtfpkllihfcgmaaaDoorW5
namespace Go.Sf
open Go Go.RowKit
abbrev Key := List (List UInt8)
/-- a node's name -/
def nameOf (k : Key) : ByteArray := mkB (k.getLastD [])
/-- a pointer to block b -/
def EPtr (_ : World) (cs : Array Value) (p : Nat) (b : Nat) : Prop := cs[p]? = some (.pointer (some ⟨b, 0, none⟩))
theorem eptr_ok : ElOk 50 1 EPtr := ⟨fun _ _ _ _ _ _ h => h, fun _ _ _ p p' _ hj h => by
  have := hj 0 (by omega); simp at this; unfold EPtr; rw [this]; exact h, fun _ _ _ _ h j hj => ⟨_, by
  have : j = 0 := by omega
  subst this; exact h, rfl⟩⟩
/-- the node with key k, of the tree that bears l: adr tells where nodes lie, kv what their slices of kids are -/
def Node (B : Nat) (w : World) (l : List It) (adr : Key → Nat) (kv : Key → Value) (k : Key) (dir : Bool) (ids : List Int) : Prop :=
  B ≤ adr k ∧ OwnS B 50 1 EPtr w (kv k) ((kidsOf l k).map fun x => adr (key x)) ∧ ∃ u, Blk w (adr k) 66 #[.string (nameOf k), .bool dir, u, kv k] ∧ Ints B w u ids
structure TreeAt (B : Nat) (w : World) (l : List It) (adr : Key → Nat) (kv : Key → Value) : Prop where
  root : Node B w l adr kv [] true []
  nodes : ∀ x, x ∈ l → Node B w l adr kv (key x) x.dir x.ids
  inj : ∀ k k', isKey l k → isKey l k' → adr k = adr k' → k = k'
  sep : ∀ k k' g, isKey l k → isKey l k' → (kv k).ownBlock = some g → (kv k').ownBlock = some g → k = k'
section
variable {B : Nat} {w w' : World} {l : List It} {adr : Key → Nat} {kv : Key → Value}
theorem Node.ext {k : Key} {dir : Bool} {ids : List Int} (h : Node B w l adr kv k dir ids) (e : Ext w w') : Node B w' l adr kv k dir ids :=
  let ⟨h1, h2, u, h3, h4⟩ := h; ⟨h1, h2.ext eptr_ok e, u, h3.ext e, h4.ext e⟩
theorem TreeAt.ext (h : TreeAt B w l adr kv) (e : Ext w w') : TreeAt B w' l adr kv :=
  ⟨h.root.ext e, fun x hx => (h.nodes x hx).ext e, h.inj, h.sep⟩
theorem TreeAt.node (h : TreeAt B w l adr kv) {k : Key} (hk : isKey l k) : ∃ dir ids, Node B w l adr kv k dir ids ∧ ((k = [] ∧ dir = true ∧ ids = []) ∨ ∃ x, x ∈ l ∧ key x = k ∧ dir = x.dir ∧ ids = x.ids) := by
  rcases hk with rfl | ⟨x, hx, rfl⟩
  · exact ⟨_, _, h.root, .inl ⟨rfl, rfl, rfl⟩⟩
  · exact ⟨_, _, h.nodes x hx, .inr ⟨x, hx, rfl, rfl, rfl⟩⟩
end
/-- the names in a directory -/
def namesOf (l : List It) (k : Key) : List ByteArray := (kidsOf l k).map fun x => nameOf (key x)
theorem nameOf_key (x : It) : nameOf (key x) = mkB ((key x).getLast (key_ne x)) := by
  unfold nameOf
  rw [List.getLastD_eq_getLast?, List.getLast?_eq_some_getLast (key_ne x)]; rfl
theorem Grow.asc_names {l : List It} (h : Grow l) (k : Key) : Asc (namesOf l k) := by
  intro i j x y hx hy hij
  unfold namesOf at hx hy
  rw [List.getElem?_map, Option.map_eq_some_iff] at hx hy
  obtain ⟨a, ha, rfl⟩ := hx
  obtain ⟨b, hb, rfl⟩ := hy
  have hpw : l.Pairwise fun x y => lt8 (bl x.path) (bl y.path) = true := by
    rw [List.pairwise_iff_getElem]
    intro i j hi hj hij
    exact h.lt (List.getElem?_eq_getElem hi) (List.getElem?_eq_getElem hj) hij
  have hka := (mem_kids.1 (List.mem_of_getElem? ha)).2
  have hkb := (mem_kids.1 (List.mem_of_getElem? hb)).2
  have hkw := hpw.sublist (List.filter_sublist (p := kin k) (l := l))
  change (kidsOf l k).Pairwise _ at hkw
  rw [List.pairwise_iff_getElem] at hkw
  have hi := lt_of_get ha
  have hj := lt_of_get hb
  have := hkw i j hi hj hij
  rw [List.getElem?_eq_getElem hi] at ha
  rw [List.getElem?_eq_getElem hj] at hb
  rw [Option.some.inj ha, Option.some.inj hb] at this
  rw [key_path_eq a, key_path_eq b, hka, hkb, lt8_append] at this
  rw [blt_eq, nameOf_key, nameOf_key, bl_mkB, bl_mkB]
  exact this
theorem name_kid {l : List It} {k : Key} {x : It} (h : x ∈ kidsOf l k) : key x = k ++ [bl (nameOf (key x))] := by
  have := (mem_kids.1 h).2
  rw [nameOf_key, bl_mkB]
  conv => lhs; rw [key_last (x := x)]
  rw [this]
section
variable {B : Nat} {w w' : World} {l : List It} {adr : Key → Nat} {kv : Key → Value}
theorem OwnS.at_ {α : Type} {base t sz : Nat} {E : World → Array Value → Nat → α → Prop} {v : Value} {l : List α} (h : OwnS base t sz E w v l) (hok : ElOk t sz E) {k : Nat} {x : α} (hx : l[k]? = some x) :
    ∃ g c cs, v = .slice (some ⟨g, 0, none⟩) l.length c ∧ base ≤ g ∧ Blk w g t cs ∧ E w cs (k * sz) x := by
  obtain ⟨xs, ⟨h1, h2⟩, h3⟩ := h
  rcases h2 with ⟨rfl, hn⟩ | ⟨g, cap, cur, rfl, hg, hh, hnc, hcm, hcs, htk⟩
  · have : l = [] := List.length_eq_zero_iff.1 hn
    subst this; simp at hx
  · refine ⟨g, cap, cur, rfl, hg, hh, hok.loc _ _ _ _ _ _ (fun j hj => ?_) (h3 k x hx)⟩
    have hk := lt_of_get hx
    have hlt : k * sz + j < l.length * sz := by
      have : (k + 1) * sz ≤ l.length * sz := Nat.mul_le_mul_right _ hk
      rw [Nat.add_mul, Nat.one_mul] at this
      omega
    rw [← Array.getElem?_toList, ← List.getElem?_take_of_lt hlt, htk, List.getElem?_toArray]
/-- the kids of a node, as the search wants them -/
theorem TreeAt.kids (h : TreeAt B w l adr kv) {k : Key} (hk : isKey l k) : ∃ A c, kv k = .slice A (namesOf l k).length c ∧ PtrNames w A ((kidsOf l k).map fun x => adr (key x)) (namesOf l k) := by
  obtain ⟨dir, ids, ⟨hB, hO, u, hb, hu⟩, -⟩ := h.node hk
  obtain ⟨A, c, hAc⟩ := hO.form
  refine ⟨A, c, by rw [hAc]; simp [namesOf], fun j nm hj => ?_⟩
  unfold namesOf at hj
  rw [List.getElem?_map, Option.map_eq_some_iff] at hj
  obtain ⟨x, hx, rfl⟩ := hj
  have hxl := (mem_kids.1 (List.mem_of_getElem? hx)).1
  have hm : ((kidsOf l k).map fun x => adr (key x))[j]? = some (adr (key x)) := by rw [List.getElem?_map, hx]; rfl
  obtain ⟨g, c', cs, hv, hg, hbl, he⟩ := hO.at_ eptr_ok hm
  rw [hAc] at hv
  injection hv with hv1 _ _
  obtain ⟨-, -, u', hb', -⟩ := h.nodes x hxl
  refine ⟨g, 0, adr (key x), hm, hv1, ?_, ?_⟩
  · rw [Nat.zero_add]; rw [Nat.mul_one] at he; exact hbl.at_ he
  · exact hb'.at_ rfl
end
end Go.Sf
