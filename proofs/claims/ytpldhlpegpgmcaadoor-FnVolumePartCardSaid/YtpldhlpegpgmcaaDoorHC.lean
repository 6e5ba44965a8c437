/- What holds of valid volumes, plain: uses are counted, blocks are there, what is loaded is a file. -/
import Derived.Test.YtpldhlpegpgmcaaDoorGU
import Derived.Test.YtpldhlpegpgmcaaDoorGS
import Derived.Test.YtpldhlpegpgmcaaDoorGY
/-! What holds of valid volumes, plain: uses are counted, blocks are there, what is loaded is a file. -/
namespace Go.Sf
open Go Go.RowKit
theorem volOk_iff {s : List Hd} {t : List It} : volOk s t = true ↔ storeOk s = true ∧ treeOk t = true ∧ filesFit s t = true ∧ usesFit s t = true := by
  unfold volOk; simp only [Bool.and_eq_true]
theorem usesFit_iff {s : List Hd} {t : List It} : usesFit s t = true ↔ ∀ h, h ∈ s → (cntT h.id t : Int) = h.uses := by
  unfold usesFit; simp only [List.all_eq_true, eqb_iff]
theorem filesFit_iff {s : List Hd} {t : List It} : filesFit s t = true ↔ ∀ x, x ∈ t → IdsFit s x.ids := by
  unfold filesFit; simp only [List.all_eq_true, idsFit_iff]
theorem bool_false {b : Bool} (h : ¬ b = true) : b = false := by cases b <;> simp at h ⊢
theorem vol_more {s : List Hd} {t : List It} {h : Hd} (hv : volOk s t = true) (h0 : s[0]? = some h) : volOk (s.set 0 { h with uses := h.uses + 1 }) t = false := bool_false fun hc => by
  have h1 := (usesFit_iff.1 (volOk_iff.1 hv).2.2.2) h (List.mem_of_getElem? h0)
  have h2 := (usesFit_iff.1 (volOk_iff.1 hc).2.2.2) { h with uses := h.uses + 1 } (List.mem_of_getElem? (i := 0) (List.getElem?_set_self (lt_of_get h0)))
  simp only at h2
  omega
theorem cntT_cons (i : Int) (x : It) (t : List It) : cntT i (x :: t) = cntI i x.ids + cntT i t := by simp [cntT]
theorem cntT_pos {i : Int} {t : List It} (h : 1 ≤ cntT i t) : ∃ x, x ∈ t ∧ 1 ≤ cntI i x.ids := by
  induction t with
  | nil => simp [cntT] at h
  | cons x t ih =>
    rcases Nat.lt_or_ge (cntI i x.ids) 1 with h1 | h1
    · rw [cntT_cons] at h
      obtain ⟨y, hy, h2⟩ := ih (by omega)
      exact ⟨y, List.mem_cons_of_mem _ hy, h2⟩
    · exact ⟨x, List.mem_cons_self, h1⟩
theorem cntI_mem {i : Int} {ids : List Int} (h : 1 ≤ cntI i ids) : i ∈ ids := by
  unfold cntI at h
  obtain ⟨j, hj⟩ := List.exists_mem_of_length_pos (l := ids.filter fun j => eqb j i) (by omega)
  rw [List.mem_filter] at hj
  rw [← eqb_iff.1 hj.2]; exact hj.1
theorem vol_less {s : List Hd} {t : List It} (hv : volOk s t = true) (hs : 0 < s.length) : volOk (s.take (s.length - 1)) t = false := bool_false fun hc => by
  obtain ⟨h1, -, -, h4⟩ := volOk_iff.1 hv
  obtain ⟨-, -, h3, -⟩ := volOk_iff.1 hc
  have hS := storeOk_iff.1 h1
  obtain ⟨h, hh⟩ := get_of_lt (l := s) (k := s.length - 1) (by omega)
  have hu := (usesFit_iff.1 h4) h (List.mem_of_getElem? hh)
  have hk := hd_ok (hS.2 _ h hh).1
  obtain ⟨x, hx, hc⟩ := cntT_pos (i := h.id) (t := t) (by omega)
  obtain ⟨k, hk2⟩ := List.mem_iff_getElem?.1 (cntI_mem hc)
  obtain ⟨y, hy, -⟩ := (filesFit_iff.1 h3 x hx).2 k _ hk2
  obtain ⟨g1, g2⟩ := findH_some hy
  obtain ⟨j, hj⟩ := List.mem_iff_getElem?.1 g1
  have hjl := lt_of_get hj
  rw [List.length_take] at hjl
  rw [List.getElem?_take, if_pos (by omega)] at hj
  have := hS.inj hj hh g2
  omega
/-! ### each use has its place -/
/-! ### what is loaded -/
end Go.Sf

/-! What a directory more, and an item less, leave of a valid volume: plain. -/
namespace Go.Sf
open Go Go.RowKit
end Go.Sf
