/- The readings of the structs, as elements of slices that are appended to. -/
import Derived.Test.YtfpkllihfcgmaaaDoorW3
namespace Go.Sf
open Go Go.RowKit
theorem EIt.keepT {B : Nat} {t : TypeId} {w w' : World} {cs : Array Value} {p : Nat} {x : It} (h : EIt B w cs p x) (hk : KeepsT t w w') (hInts : 3 ≠ t) : EIt B w' cs p x :=
  let ⟨h0, g0, h1, ⟨u2, h2, g2⟩⟩ := h; ⟨h0, g0, h1, ⟨u2, h2, g2.keepT hk hInts⟩⟩
theorem Its.keepT {B : Nat} {t : TypeId} {w w' : World} {v : Value} {l : List It} (h : Its B w v l) (hk : KeepsT t w w') (h0 : 35 ≠ t) (hInts : 3 ≠ t) : Its B w' v l :=
  SlOf.keepT h hk h0 fun _ _ _ e => e.keepT hk hInts
theorem ItV.keepT {B : Nat} {t : TypeId} {w w' : World} {v : Value} {x : It} (h : ItV B w v x) (hk : KeepsT t w w') (hInts : 3 ≠ t) : ItV B w' v x :=
  let ⟨u2, h, g0, g2⟩ := h; ⟨u2, h, g0, g2.keepT hk hInts⟩
theorem EIt_ok (B : Nat) : ElOk 35 3 (EIt B) := ⟨fun _ _ _ _ _ hk h => h.keepT hk (by decide), fun _ _ _ p p' _ hj h => by
  obtain ⟨h0, g0, h1, ⟨u2, h2, g2⟩⟩ := h
  exact ⟨by have := hj 0 (by omega); simp only [Nat.add_zero] at this; rw [this]; exact h0, g0, by have := hj 1 (by omega); rw [this]; exact h1, ⟨u2, by have := hj 2 (by omega); rw [this]; exact h2, g2⟩⟩, fun _ cs p _ h j hj => by
  obtain ⟨h0, g0, h1, ⟨u2, h2, g2⟩⟩ := h
  match j, hj with
  | 0, _ => exact ⟨_, h0, rfl⟩
  | 1, _ => exact ⟨_, h1, rfl⟩
  | 2, _ => exact ⟨_, h2, g2.one⟩⟩
theorem ECh.keepT {B : Nat} {t : TypeId} {w w' : World} {cs : Array Value} {p : Nat} {x : Ch} (h : ECh B w cs p x) (hk : KeepsT t w w') (hInts : 3 ≠ t) : ECh B w' cs p x :=
  let ⟨h0, g0, h1, g1, h2, ⟨u3, h3, g3⟩⟩ := h; ⟨h0, g0, h1, g1, h2, ⟨u3, h3, g3.keepT hk hInts⟩⟩
theorem Chs.keepT {B : Nat} {t : TypeId} {w w' : World} {v : Value} {l : List Ch} (h : Chs B w v l) (hk : KeepsT t w w') (h0 : 39 ≠ t) (hInts : 3 ≠ t) : Chs B w' v l :=
  SlOf.keepT h hk h0 fun _ _ _ e => e.keepT hk hInts
theorem ChV.keepT {B : Nat} {t : TypeId} {w w' : World} {v : Value} {x : Ch} (h : ChV B w v x) (hk : KeepsT t w w') (hInts : 3 ≠ t) : ChV B w' v x :=
  let ⟨u3, h, g0, g1, g3⟩ := h; ⟨u3, h, g0, g1, g3.keepT hk hInts⟩
theorem ECh_ok (B : Nat) : ElOk 39 4 (ECh B) := ⟨fun _ _ _ _ _ hk h => h.keepT hk (by decide), fun _ _ _ p p' _ hj h => by
  obtain ⟨h0, g0, h1, g1, h2, ⟨u3, h3, g3⟩⟩ := h
  exact ⟨by have := hj 0 (by omega); simp only [Nat.add_zero] at this; rw [this]; exact h0, g0, by have := hj 1 (by omega); rw [this]; exact h1, g1, by have := hj 2 (by omega); rw [this]; exact h2, ⟨u3, by have := hj 3 (by omega); rw [this]; exact h3, g3⟩⟩, fun _ cs p _ h j hj => by
  obtain ⟨h0, g0, h1, g1, h2, ⟨u3, h3, g3⟩⟩ := h
  match j, hj with
  | 0, _ => exact ⟨_, h0, rfl⟩
  | 1, _ => exact ⟨_, h1, rfl⟩
  | 2, _ => exact ⟨_, h2, rfl⟩
  | 3, _ => exact ⟨_, h3, g3.one⟩⟩
end Go.Sf
