/- Arguments that are strings. -/
import Derived.Test.YtmgnmfkkikmedaaGreatDoorR0
namespace Go.Proofs.YtmgnmfkkikmedaaGreatDoor
open Go.ChangeShapes Go.WideShapes Go.ChangeAt Go.RowKit Go.Sf
section
variable {H : Type} {enc : TypeId × Value → H} {W : World}
set_option maxRecDepth 100000 in
theorem open_str {v : Value} {d : DataW H} {p : List MemPlace} {base : Nat} (hval : Value.okWide Tryz.prog W .any base 9 v) (h : DataW.Trod enc Tryz.prog W 0 (fun _ => true) true 9 v d p) : ∃ s : ByteArray, v = .string s ∧ s.size ≤ maxLen := by
  obtain ⟨s, rfl⟩ := okWide_string Tryz.underlying9 hval
  obtain ⟨fuel, hf⟩ := h
  obtain ⟨s', hc, -, hs⟩ := DataW.trod_string Tryz.underlying9 hf
  simp [Value.cells] at hc
  subst hc
  exact ⟨s, rfl, hs⟩
end
end Go.Proofs.YtmgnmfkkikmedaaGreatDoor
