/- What holds of valid volumes, plain: uses are counted, blocks are there, what is loaded is a file. -/
import Derived.Test.YtdnnojghjnjnfaaGreatDoorGU
import Derived.Test.YtdnnojghjnjnfaaGreatDoorGS
import Derived.Test.YtdnnojghjnjnfaaGreatDoorGY
/-! What holds of valid volumes, plain: uses are counted, blocks are there, what is loaded is a file. -/
namespace Go.Sf
open Go Go.RowKit
/-! ### each use has its place -/
/-! ### what is loaded -/
theorem load_valid {s : List Hd} (hs : StoreOk s) {ids : List Int} (hf : IdsFit s ids) : fileOk (loadOf s ids) = true := by
  unfold fileOk
  rw [Bool.and_eq_true, decide_eq_true_eq, List.all_eq_true]
  constructor
  · intro b hb
    unfold loadOf at hb
    rw [List.mem_flatMap] at hb
    obtain ⟨i, hi, hb⟩ := hb
    obtain ⟨k, hk⟩ := List.mem_iff_getElem?.1 hi
    obtain ⟨y, hy, -⟩ := hf.2 k i hk
    rw [hy] at hb
    obtain ⟨j, hj⟩ := List.mem_iff_getElem?.1 (findH_some hy).1
    have := (hd_ok (hs.2 j y hj).1).2.1
    unfold blockOk at this
    rw [Bool.and_eq_true, List.all_eq_true] at this
    exact this.1 b (by simpa using hb)
  · have h1 := loadOf_len hs ids
    have h2 := hf.1
    omega
end Go.Sf

/-! What a directory more, and an item less, leave of a valid volume: plain. -/
namespace Go.Sf
open Go Go.RowKit
end Go.Sf
