/- slices.Delete of one node. -/
import Derived.Test.YtneabdoianmfhaaGreatDoorGE
import Derived.Test.YtneabdoianmfhaaGreatDoorShelfD
import Derived.Lib.OwnBridge
namespace Go.Sf
open Go Go.RowKit Go.Proofs
def encP : Option Nat → Value
  | some b => .pointer (some ⟨b, 0, none⟩)
  | none => .pointer none
theorem encP_one : OneCell encP := fun x => by cases x <;> rfl
theorem ptr_xs {w : World} {xs : List Value} {bs : List Nat} (hl : xs.length = bs.length * 1) (h : ∀ k x, bs[k]? = some x → EPtr w xs.toArray (k * 1) x) : xs = (bs.map some).map encP := by
  apply List.ext_getElem?
  intro j
  rw [List.map_map, List.getElem?_map]
  cases hb : bs[j]? with
  | none =>
    have : bs.length ≤ j := List.getElem?_eq_none_iff.1 hb
    rw [List.getElem?_eq_none (by omega)]; rfl
  | some b =>
    have := h j b hb
    unfold EPtr at this
    rw [Nat.mul_one, List.getElem?_toArray] at this
    rw [this]; rfl
theorem ptr_own {B n : Nat} {w : World} {v : Value} {bs : List Nat} (hn : bs.length = n) (h : w.ownsRow B 94 1 v n ((bs.map some).map encP)) : OwnS B 94 1 EPtr w v bs := by
  subst hn
  refine ⟨_, h, fun k x hk => ?_⟩
  unfold EPtr
  rw [Nat.mul_one, List.getElem?_toArray, List.map_map, List.getElem?_map, hk]
  rfl
/-- the row is as long as it was, or shorter: in place -/
def CutV (B g c : Nat) (w : World) (bs : List Nat) (e : Ending) (w' : World) : Prop :=
  e = .returned (.slice (some ⟨g, 0, none⟩) bs.length c) ∧ OwnS B 94 1 EPtr w' (.slice (some ⟨g, 0, none⟩) bs.length c) bs ∧ w.grownBy w' (some g)
theorem grownBy_putRow {α : Type} [Inhabited α] {enc : α → Value} {w : World} {g n : Nat} (d : Array α) : w.grownBy (Sort.putRow enc (Sort.ahead w n) g 0 d) (some g) := by
  refine ⟨rfl, rfl, rfl, by simp [Sort.ahead], fun k hk hne => ?_⟩
  have : g ≠ k := fun e => hne (by rw [e])
  simp [Sort.putRow, Sort.mapBlock, Sort.ahead, Array.getElem?_modify, this]
theorem Delete_c {B g c i : Nat} {w : World} {bs : List Nat} (hO : OwnS B 94 1 EPtr w (.slice (some ⟨g, 0, none⟩) bs.length c) bs) (hi : i < bs.length) :
    Calls Tryz.prog 188 #[.slice (some ⟨g, 0, none⟩) bs.length c, .int .i64 i, .int .i64 ((i : Int) + 1)] w (CutV B g c w (bs.eraseIdx i)) := by
  obtain ⟨xs, hrow, hxs⟩ := hO
  have hx := ptr_xs hrow.1 hxs
  subst hx
  obtain ⟨g', c', hv, -, -, hnc, hcm, hl, hH⟩ := Lib.holds_of_ownsRow hrow (by intro h; cases h)
  injection hv with e1 _ e3
  injection e1 with e1
  injection e1 with e1
  subst e1; subst e3
  have hlen : (bs.map some).toArray.size = bs.length := by simp
  have hle : (bs.eraseIdx i).length = bs.length - 1 := by rw [List.length_eraseIdx, if_pos hi]
  obtain ⟨ii, z, by_, hii, hz, hsz, -⟩ := el_Ptr.info
  have h := AnyE.slices_Delete Tryz.delNode encP encP_one none (fun w => Tryz.zeroValue94 w) ii hii hsz g 0 c i (i + 1) (bs.map some).toArray w hH (by rw [hlen]; exact hnc) (by unfold maxLen at hcm; omega) (by omega) (by rw [hlen]; omega)
  rw [hlen] at h
  refine (show Calls _ _ _ _ _ from h).mono ?_
  rintro e w' ⟨rfl, q, rfl⟩
  refine ⟨by rw [hle, show i + 1 - i = 1 by omega], ?_, grownBy_putRow _⟩
  have hy : (((bs.map some).take i ++ (bs.map some).drop (i + 1) ++ List.replicate (i + 1 - i) none)).length = bs.length := by simp; omega
  have h2 := Lib.ownsRow_putRow (q := q) (k := bs.length - 1) hrow hy (by omega)
  refine ptr_own (n := bs.length - 1) hle ?_
  rw [hle]
  have e : (((bs.map some).take i ++ (bs.map some).drop (i + 1) ++ List.replicate (i + 1 - i) none)).take (bs.length - 1) = (bs.eraseIdx i).map some := by
    rw [List.take_append_of_le_length (by simp; omega), List.take_of_length_le (by simp; omega), ← List.eraseIdx_eq_take_drop_succ]
    apply List.ext_getElem?
    intro j
    simp only [List.getElem?_eraseIdx, List.getElem?_map]
    split <;> rfl
  rw [e] at h2
  exact h2
end Go.Sf
