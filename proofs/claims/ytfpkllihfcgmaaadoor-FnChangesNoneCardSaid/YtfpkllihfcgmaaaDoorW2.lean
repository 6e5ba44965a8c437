/- The structs of this program as data, and what they read as in memory. -/
import Derived.Test.YtfpkllihfcgmaaaDoorW1
namespace Go.Sf
open Go Go.RowKit
/-- impl.Item -/
structure It where
  path : ByteArray
  dir : Bool
  ids : List Int
  deriving DecidableEq
def EIt (B : Nat) (w : World) (cs : Array Value) (p : Nat) (x : It) : Prop :=
  cs[p]? = some (.string x.path) ∧ x.path.size < lim ∧ cs[p + 1]? = some (.bool x.dir) ∧ (∃ u, cs[p + 2]? = some u ∧ Ints B w u x.ids)
def Its (B : Nat) (w : World) (v : Value) (l : List It) : Prop := SlOf B 35 3 (EIt B) w v l
def ItV (B : Nat) (w : World) (v : Value) (x : It) : Prop := ∃ u2, v = .agg #[.string x.path, .bool x.dir, u2] ∧ x.path.size < lim ∧ Ints B w u2 x.ids
section
variable {B B' : Nat} {w w' : World} {v : Value}
theorem EIt.keep {cs : Array Value} {p : Nat} {x : It} (h : EIt B w cs p x) (hB : B' ≤ B) (hk : Keeps B w w') : EIt B' w' cs p x :=
  let ⟨h0, g0, h1, ⟨u2, h2, g2⟩⟩ := h; ⟨h0, g0, h1, ⟨u2, h2, g2.keep hB hk⟩⟩
theorem ItV.keep {x : It} (h : ItV B w v x) (hB : B' ≤ B) (hk : Keeps B w w') : ItV B' w' v x :=
  let ⟨u2, h, g0, g2⟩ := h; ⟨u2, h, g0, g2.keep hB hk⟩
theorem ItV.ext {x : It} (h : ItV B w v x) (e : Ext w w') : ItV B w' v x := h.keep (Nat.le_refl _) (e.keeps _)
theorem Its.keep {l : List It} (h : Its B w v l) (hB : B' ≤ B) (hk : Keeps B w w') : Its B' w' v l := h.mono hB hk fun _ _ _ e => e.keep hB hk
theorem Its.one {l : List It} (h : Its B w v l) : v.oneCell' = true := SlOf.one h
theorem Its.ext {l : List It} (h : Its B w v l) (e : Ext w w') : Its B w' v l := h.keep (Nat.le_refl _) (e.keeps _)
theorem Its.at_ {A : Option Addr} {c : Nat} {l : List It} (h : SlIn B 35 3 (EIt B) w A c l) {k : Nat} {x : It} (hx : l[k]? = some x) :
    ∃ b o u2, A = some ⟨b, o, none⟩ ∧ B ≤ b ∧ b < w.heap.size ∧ x.path.size < lim ∧ Ints B w u2 x.ids ∧ (∀ W, Ext w W → W.cell? ⟨b, o + k * 3, none⟩ = some (.string x.path)) ∧ (∀ W, Ext w W → W.cell? ⟨b, o + k * 3 + 1, none⟩ = some (.bool x.dir)) ∧ (∀ W, Ext w W → W.cell? ⟨b, o + k * 3 + 2, none⟩ = some (u2)) := by
  obtain ⟨b, o, cs, rfl, hb, hB, h0, g0, h1, ⟨u2, h2, g2⟩⟩ := h.2.2.2 k x hx
  exact ⟨b, o, u2, rfl, hb, hB.lt, g0, g2, hB.at_ h0, hB.at_ h1, hB.at_ h2⟩
end
/-- impl.Change -/
structure Ch where
  kind : Int
  item : It
  deriving DecidableEq
def ECh (B : Nat) (w : World) (cs : Array Value) (p : Nat) (x : Ch) : Prop :=
  cs[p]? = some (.int .i64 x.kind) ∧ inI x.kind ∧ cs[p + 1]? = some (.string x.item.path) ∧ x.item.path.size < lim ∧ cs[p + 2]? = some (.bool x.item.dir) ∧ (∃ u, cs[p + 3]? = some u ∧ Ints B w u x.item.ids)
def Chs (B : Nat) (w : World) (v : Value) (l : List Ch) : Prop := SlOf B 39 4 (ECh B) w v l
def ChV (B : Nat) (w : World) (v : Value) (x : Ch) : Prop := ∃ u3, v = .agg #[.int .i64 x.kind, .string x.item.path, .bool x.item.dir, u3] ∧ inI x.kind ∧ x.item.path.size < lim ∧ Ints B w u3 x.item.ids
section
variable {B B' : Nat} {w w' : World} {v : Value}
theorem ECh.keep {cs : Array Value} {p : Nat} {x : Ch} (h : ECh B w cs p x) (hB : B' ≤ B) (hk : Keeps B w w') : ECh B' w' cs p x :=
  let ⟨h0, g0, h1, g1, h2, ⟨u3, h3, g3⟩⟩ := h; ⟨h0, g0, h1, g1, h2, ⟨u3, h3, g3.keep hB hk⟩⟩
theorem ChV.keep {x : Ch} (h : ChV B w v x) (hB : B' ≤ B) (hk : Keeps B w w') : ChV B' w' v x :=
  let ⟨u3, h, g0, g1, g3⟩ := h; ⟨u3, h, g0, g1, g3.keep hB hk⟩
theorem ChV.ext {x : Ch} (h : ChV B w v x) (e : Ext w w') : ChV B w' v x := h.keep (Nat.le_refl _) (e.keeps _)
theorem Chs.keep {l : List Ch} (h : Chs B w v l) (hB : B' ≤ B) (hk : Keeps B w w') : Chs B' w' v l := h.mono hB hk fun _ _ _ e => e.keep hB hk
theorem Chs.one {l : List Ch} (h : Chs B w v l) : v.oneCell' = true := SlOf.one h
theorem Chs.ext {l : List Ch} (h : Chs B w v l) (e : Ext w w') : Chs B w' v l := h.keep (Nat.le_refl _) (e.keeps _)
theorem Chs.at_ {A : Option Addr} {c : Nat} {l : List Ch} (h : SlIn B 39 4 (ECh B) w A c l) {k : Nat} {x : Ch} (hx : l[k]? = some x) :
    ∃ b o u3, A = some ⟨b, o, none⟩ ∧ B ≤ b ∧ b < w.heap.size ∧ inI x.kind ∧ x.item.path.size < lim ∧ Ints B w u3 x.item.ids ∧ (∀ W, Ext w W → W.cell? ⟨b, o + k * 4, none⟩ = some (.int .i64 x.kind)) ∧ (∀ W, Ext w W → W.cell? ⟨b, o + k * 4 + 1, none⟩ = some (.string x.item.path)) ∧ (∀ W, Ext w W → W.cell? ⟨b, o + k * 4 + 2, none⟩ = some (.bool x.item.dir)) ∧ (∀ W, Ext w W → W.cell? ⟨b, o + k * 4 + 3, none⟩ = some (u3)) := by
  obtain ⟨b, o, cs, rfl, hb, hB, h0, g0, h1, g1, h2, ⟨u3, h3, g3⟩⟩ := h.2.2.2 k x hx
  exact ⟨b, o, u3, rfl, hb, hB.lt, g0, g1, g3, hB.at_ h0, hB.at_ h1, hB.at_ h2, hB.at_ h3⟩
end
end Go.Sf
