/- What the tables of the program say of the slice types that are appended to. -/
import Derived.Test.YtfpkllihfcgmaaaDoorChecked
import Derived.Test.YtfpkllihfcgmaaaDoorW4
namespace Go.Sf
open Go Go.RowKit Go.Proofs
theorem el_int : Elem Tryd.prog 30 3 1 :=
  elem_of (z := .int .i64 0) (b := 8) Tryd.underlying30 (by kernel_rfl) (by decide) rfl (by decide)
theorem el_string : Elem Tryd.prog 90 9 1 :=
  elem_of (z := .string ⟨#[]⟩) (b := 16) Tryd.underlying90 (by kernel_rfl) (by decide) rfl (by decide)
theorem el_It : Elem Tryd.prog 23 35 3 :=
  elem_of (z := .agg #[.string ⟨#[]⟩, .bool false, .slice none 0 0]) (b := 48) Tryd.underlying23 (by kernel_rfl) (by decide) rfl (by decide)
theorem el_Ch : Elem Tryd.prog 26 39 4 :=
  elem_of (z := .agg #[.int .i64 0, .string ⟨#[]⟩, .bool false, .slice none 0 0]) (b := 56) Tryd.underlying26 (by kernel_rfl) (by decide) rfl (by decide)
end Go.Sf
