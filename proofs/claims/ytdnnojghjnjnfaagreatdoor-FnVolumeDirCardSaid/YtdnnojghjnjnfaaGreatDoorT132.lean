/- A volume is marked, and what was marked is found. -/
import Derived.Test.YtdnnojghjnjnfaaGreatDoorGU
import Derived.Test.YtdnnojghjnjnfaaGreatDoorGS
import Derived.Test.YtdnnojghjnjnfaaGreatDoorGL
namespace Go.Sf
open Go Go.RowKit Go.Proofs
theorem mkHdsU_from : ∀ (k : Int) (l : List (Hd × Value)) (q : Hd × Value), q ∈ mkHdsU k l → ∃ q', q' ∈ l ∧ q.2 = q'.2 ∧ (q.1.bytes ≠ [] → q'.1.bytes ≠ [])
  | _, [], q, h => by cases h
  | k, x :: r, q, h => by
    rcases List.mem_cons.1 h with rfl | h
    · refine ⟨x, by simp, rfl, fun hne hx => hne ?_⟩
      have : (mkHd k x.1).bytes.length = x.1.bytes.length := by show (mkInts (k + 1) x.1.bytes.length).length = _; exact mkInts_len _ _
      rw [hx] at this
      exact List.length_eq_zero_iff.1 this
    · obtain ⟨q', h1, h2⟩ := mkHdsU_from _ r q h
      exact ⟨q', by simp [h1], h2⟩
theorem FootHd.mk {v : Value} {k : Int} {l : List (Hd × Value)} {b : Nat} (h : FootHd v (mkHdsU k l) b) : FootHd v l b := by
  rcases h with ⟨h1, h2⟩ | ⟨q, hq, h1, h2⟩
  · exact .inl ⟨h1, fun e => h2 (by rw [e]; rfl)⟩
  · obtain ⟨q', g1, g2, g3⟩ := mkHdsU_from _ _ _ hq
    exact .inr ⟨q', g1, by rw [← g2]; exact h1, g3 h2⟩
theorem HdsU.mod {B : Nat} {S : Nat → Prop} {w w' : World} {v : Value} {l : List (Hd × Value)} (h : HdsU B w v l) (hm : Mod S w w') (hs : ∀ b, FootHd v l b → ¬ S b) : HdsU B w' v l := by
  obtain ⟨A, c, rfl, h⟩ := h
  refine ⟨A, c, rfl, ?_⟩
  cases l with
  | nil => exact ⟨h.1, h.2.1, h.2.2.1, fun k x hx => by simp at hx⟩
  | cons y ys =>
    exact SlIn.mod h hm (fun b o e => hs b (.inl ⟨by rw [e]; rfl, by simp⟩)) fun k x cs p hx ⟨y0, g0, y1, y2, g2, hI⟩ =>
      ⟨y0, g0, y1, y2, g2, hI.mod hm fun b hb => hs b (.inr ⟨x, List.mem_of_getElem? hx, hb⟩)⟩
theorem dropAll_len : ∀ (ids : List Int) (l l' : List Hd), dropAll l ids = some l' → l'.length ≤ l.length
  | [], l, l', h => by injection h with h; subst h; exact Nat.le_refl _
  | i :: r, l, l', h => by
    cases hd : dropId l i with
    | none => rw [dropAll, hd] at h; cases h
    | some l1 =>
      rw [dropAll, hd] at h
      exact Nat.le_trans (dropAll_len r l1 l' h) (dropId_len hd)
theorem volOk_len {s : List Hd} {t : List It} (h : volOk s t = true) : s.length ≤ 16 := by
  unfold volOk at h
  simp only [Bool.and_eq_true] at h
  exact (storeOk_iff.1 h.1).1
theorem volDrop_len {s : List Hd} {t : List It} {p : ByteArray} : ((volDrop s t p).elim [] (·.1)).length ≤ lim := by
  unfold volDrop lim
  split
  · next hv =>
    have h16 := volOk_len hv
    cases treeDrop t p with
    | none => simp
    | some t' =>
      simp only [Option.map_some, Option.elim_some]
      unfold freeAll
      split
      · cases hd : dropAll s (idsAt t p) with
        | none => simp
        | some l => have := dropAll_len _ _ _ hd; simp only [Option.getD_some]; omega
      · simp
  · simp
theorem volPut_len {s : List Hd} {t : List It} {p : ByteArray} : ((volPut s t (dirIt p)).elim [] (·.1)).length ≤ lim := by
  unfold volPut lim
  split
  · next hv =>
    have h16 := volOk_len hv
    cases treePut t (dirIt p) with
    | none => simp
    | some t' => simp only [Option.map_some, Option.elim_some]; omega
  · simp
end Go.Sf
