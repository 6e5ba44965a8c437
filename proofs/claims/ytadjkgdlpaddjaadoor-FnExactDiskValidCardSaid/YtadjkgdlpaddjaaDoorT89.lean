/- Files of volumes are read: the reference's way. -/
import Derived.Test.YtadjkgdlpaddjaaDoorGQ
namespace Go.Sf
open Go Go.RowKit Go.Proofs
noncomputable def loadOf (s : List Hd) (ids : List Int) : List Int := ids.flatMap fun i => ((findH s i).map (·.bytes)).getD []
def fileOf (t : List It) (p : ByteArray) : Option It := (findIt t p).bind fun x => if x.dir = true then none else some x
noncomputable def readOf (s : List Hd) (t : List It) (p : ByteArray) : Option (List Int) := if volOk s t = true then (fileOf t p).map fun x => loadOf s x.ids else none
theorem loadOf_take {s : List Hd} {ids : List Int} {k : Nat} {i : Int} {h : Hd} (hx : ids[k]? = some i) (hf : findH s i = some h) : loadOf s (ids.take (k + 1)) = loadOf s (ids.take k) ++ h.bytes := by
  unfold loadOf
  rw [List.take_add_one, hx, Option.toList_some, List.flatMap_append]
  simp [hf]
theorem block8 {s : List Hd} (hs : StoreOk s) {i : Int} {h : Hd} (hf : findH s i = some h) : h.bytes.length ≤ 8 := by
  obtain ⟨h1, -⟩ := findH_some hf
  obtain ⟨j, hj⟩ := List.mem_iff_getElem?.1 h1
  exact (block_len (hd_ok (hs.2 j h hj).1).2.1).2
theorem loadOf_len {s : List Hd} (hs : StoreOk s) : ∀ ids : List Int, (loadOf s ids).length ≤ ids.length * 8 := by
  intro ids
  induction ids with
  | nil => simp [loadOf]
  | cons i r ih =>
    unfold loadOf at ih ⊢
    rw [List.flatMap_cons, List.length_append, List.length_cons]
    have : (((findH s i).map (·.bytes)).getD []).length ≤ 8 := by
      cases hf : findH s i with
      | none => simp
      | some h => exact block8 hs hf
    omega
theorem its_sub {B b o c i : Nat} {w : World} {t : List It} {x : It} (h : SlIn B 68 3 (EIt B) w (some ⟨b, o, none⟩) c t) (hx : t[i]? = some x) : Its B w (.slice (some ⟨b, o + i * 3, none⟩) 1 (c - i)) [x] := by
  obtain ⟨h1, h2, h3, h4⟩ := h
  have hi := lt_of_get hx
  obtain ⟨b', o', cs, e, hB, hb, he⟩ := h4 i x hx
  cases e
  refine ⟨_, c - i, rfl, by simp; omega, ⟨by omega, fun e => by cases e⟩, by unfold lim; simp, fun k y hy => ?_⟩
  cases k with
  | succ k => simp at hy
  | zero =>
    simp only [List.getElem?_cons_zero, Option.some.injEq] at hy
    subst hy
    exact ⟨b, o + i * 3, cs, rfl, hB, hb, by simpa using he⟩
end Go.Sf
