/- The reference writes a file of a disk; what it hands back is a disk again. -/
import Derived.Test.YtpldhlpegpgmcaaDoorGY
import Derived.Test.YtpldhlpegpgmcaaDoorGR
import Derived.Test.YtpldhlpegpgmcaaDoorHF
/-! The reference writes a file of a disk; what it hands back is a disk again. -/
namespace Go.Sf
open Go Go.RowKit Go.Proofs
theorem writeT_tree {s s' : List Hd} {t t' : List It} {p : ByteArray} {bs : List Int} (h : writeT s t p bs = some (s', t')) : t'.length ≤ 12 ∧ treeOk t' = true := by
  unfold writeT at h
  rw [Option.bind_eq_some_iff] at h
  obtain ⟨q, -, h⟩ := h
  rw [Option.map_eq_some_iff] at h
  obtain ⟨t2, h2, e⟩ := h
  cases e
  unfold treePut at h2
  split at h2
  · next hc => cases h2; exact ⟨(treeOk_iff.1 hc.2.2.2).1, hc.2.2.2⟩
  · cases h2
theorem writeT_store {s s' : List Hd} {t t' : List It} {p : ByteArray} {bs : List Int} (h : writeT s t p bs = some (s', t')) : s'.length ≤ 16 := by
  unfold writeT at h
  rw [Option.bind_eq_some_iff] at h
  obtain ⟨⟨s2, ids⟩, h1, h⟩ := h
  rw [Option.map_eq_some_iff] at h
  obtain ⟨t2, h2, e⟩ := h
  have h3 := (fileStore_ok h1).1.1
  have e1 := (Prod.mk.inj e).1
  subst e1
  cases fileOf t p with
  | none => exact h3
  | some x => exact Nat.le_trans (freeAll_len s2 x.ids) h3
end Go.Sf

/-! The reference takes a snapshot; what it hands back is a disk again. -/
namespace Go.Sf
open Go Go.RowKit Go.Proofs
end Go.Sf

/-! The reference goes back to a snapshot; what it hands back is a disk again. -/
namespace Go.Sf
open Go Go.RowKit Go.Proofs
end Go.Sf
