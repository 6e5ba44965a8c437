/- Arguments that are volumes; the exact law of VolumeValid. -/
import Derived.Test.YtpldhlpegpgmcaaDoorGQ
import Derived.Test.YtpldhlpegpgmcaaDoorHG
import Derived.Test.YtpldhlpegpgmcaaDoorGD
import Derived.LaidEql
import Derived.Stop.Asserts
import Derived.RowKitTokens
/-! Arguments that are volumes; the exact law of VolumeValid. -/
namespace Go.Sf
open Go Go.RowKit Go.Proofs
theorem HdsU.keepT {B : Nat} {t : TypeId} {w w' : World} {v : Value} {lu : List (Hd × Value)} (h : HdsU B w v lu) (hk : KeepsT t w w') (h1 : 31 ≠ t) (h2 : 3 ≠ t) : HdsU B w' v lu := SlOf.keepT h hk h1 fun _ _ _ h => h.keepT hk h2
theorem ItsU.keepT {B : Nat} {t : TypeId} {w w' : World} {v : Value} {lu : List (It × Value)} (h : ItsU B w v lu) (hk : KeepsT t w w') (h1 : 34 ≠ t) (h2 : 3 ≠ t) : ItsU B w' v lu := SlOf.keepT h hk h1 fun _ _ _ h => h.keepT hk h2
/-- a copy of a volume: its blocks lie ahead of m, its items behind -/
def VolU (B : Nat) (w : World) (r : Value) (s : List Hd) (t : List It) : Prop :=
  ∃ u1 u2 lh li m, r = .agg #[u1, u2] ∧ lh.map Prod.fst = s ∧ HdsU B w u1 lh ∧ Sep lh ∧ (∀ b, FootHd u1 lh b → b < m) ∧ li.map Prod.fst = t ∧ ItsU m w u2 li ∧ Sep li ∧ B ≤ m
theorem VolU.ext {B : Nat} {w w' : World} {r : Value} {s : List Hd} {t : List It} (h : VolU B w r s t) (e : Ext w w') : VolU B w' r s t :=
  let ⟨u1, u2, lh, li, m, a1, a2, a3, a4, a5, a6, a7, a8, a9⟩ := h; ⟨u1, u2, lh, li, m, a1, a2, a3.ext e, a4, a5, a6, a7.ext e, a8, a9⟩
theorem VolU.plain {B : Nat} {w : World} {r : Value} {s : List Hd} {t : List It} (h : VolU B w r s t) : ∃ u1 u2, r = .agg #[u1, u2] ∧ Hds 0 w u1 s ∧ Its 0 w u2 t := by
  obtain ⟨u1, u2, lh, li, m, a1, a2, a3, -, -, a6, a7, -, -⟩ := h
  refine ⟨u1, u2, a1, ?_, ?_⟩
  · have := a3.plain; rw [a2] at this; exact this.keep (Nat.zero_le _) (fun _ _ _ => rfl)
  · have := a7.its; rw [a6] at this; exact this.keep (Nat.zero_le _) (fun _ _ _ => rfl)
end Go.Sf

/-! The blocks of a store are listed, in the order of their ids. -/
namespace Go.Sf
open Go Go.RowKit Go.Proofs Go.Maps Go.Sort
theorem oneHd {i j : Int} {u : Value} (h : u.oneCell' = true) : ∀ c ∈ (#[.int .i64 i, u, .int .i64 j] : Array Value).toList, c.oneCell' = true := by
  intro c hc
  simp at hc
  rcases hc with rfl | rfl | rfl
  · rfl
  · exact h
  · rfl
end Go.Sf

/-! errors.As at a struct of the program's own: nil, or that struct. -/
namespace Go.Sf
open Go Go.RowKit Go.Proofs Go.Extern.Stop Go.Stop Go.Extern
end Go.Sf
