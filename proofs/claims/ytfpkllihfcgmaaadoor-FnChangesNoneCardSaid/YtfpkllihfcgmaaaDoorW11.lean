/- The reader that draws: its block changes, all else is as it was. -/
import Derived.Test.YtfpkllihfcgmaaaDoorW4
import Derived.Test.YtfpkllihfcgmaaaDoorW5
namespace Go.Sf
open Go Go.RowKit
/-- the bytes xs lie in a block below rb, of whatever type -/
def UIn (rb : Nat) (w : World) (A : Option Addr) (c : Nat) (xs : List Int) : Prop :=
  xs.length ≤ c ∧ (c ≤ maxLen ∧ (A = none → c = 0)) ∧ xs.length ≤ lim ∧ ∀ (k : Nat) (x : Int), xs[k]? = some x → ∃ b o, A = some ⟨b, o, none⟩ ∧ b < rb ∧ w.cell? ⟨b, o + k, none⟩ = some (.int .u8 x) ∧ 0 ≤ x ∧ x ≤ 255
def Bys (w : World) (v : Value) (xs : List Int) : Prop := ∃ A c, v = .slice A xs.length c ∧ UIn w.heap.size w A c xs
theorem UIn.at_ {rb : Nat} {w : World} {A : Option Addr} {c : Nat} {l : List Int} (h : UIn rb w A c l) {k : Nat} {x : Int} (hx : l[k]? = some x) :
    ∃ b o, A = some ⟨b, o, none⟩ ∧ 0 ≤ x ∧ x ≤ 255 ∧ b < rb ∧ w.cell? ⟨b, o + k, none⟩ = some (.int .u8 x) := by
  obtain ⟨b, o, rfl, h1, h2, h3, h4⟩ := h.2.2.2 k x hx
  exact ⟨b, o, rfl, h3, h4, h1, h2⟩
theorem UIn.low {rb : Nat} {w w' : World} {A : Option Addr} {c : Nat} {l : List Int} (h : UIn rb w A c l) (hl : ∀ b, b < rb → w'.heap[b]? = w.heap[b]?) : UIn rb w' A c l :=
  ⟨h.1, h.2.1, h.2.2.1, fun k x hx => let ⟨b, o, h1, h2, h3, h4⟩ := h.2.2.2 k x hx; ⟨b, o, h1, h2, (World.cell?_of_block (hl b h2)).trans h3, h4⟩⟩
/-- all but block rb is as it was; new blocks may have come -/
def ExtR (rb : Nat) (w w' : World) : Prop := (w'.os = w.os ∧ w'.tape = w.tape ∧ w'.output = w.output) ∧ w.heap.size ≤ w'.heap.size ∧ ∀ k, k < w.heap.size → k ≠ rb → w'.heap[k]? = w.heap[k]?
section
variable {rb : Nat} {w w' w'' : World}
theorem Ext.toR (h : Ext w w') (rb : Nat) : ExtR rb w w' := ⟨⟨Below.os h, Below.tape h, Below.output h⟩, h.size, fun _ hk _ => h.block hk⟩
theorem ExtR.refl (rb : Nat) (w : World) : ExtR rb w w := (Ext.refl w).toR rb
theorem ExtR.trans (h : ExtR rb w w') (k : ExtR rb w' w'') : ExtR rb w w'' :=
  ⟨⟨k.1.1.trans h.1.1, k.1.2.1.trans h.1.2.1, k.1.2.2.trans h.1.2.2⟩, Nat.le_trans h.2.1 k.2.1, fun i hi hr => (k.2.2 i (Nat.lt_of_lt_of_le hi h.2.1) hr).trans (h.2.2 i hi hr)⟩
theorem ExtR.ext {w0 : World} (h : ExtR rb w w') (h0 : Ext w0 w) (hr : w0.heap.size ≤ rb) : Ext w0 w' :=
  ⟨h.1.1.trans (Below.os h0 : w.os = w0.os), h.1.2.1.trans (Below.tape h0 : w.tape = w0.tape), h.1.2.2.trans (Below.output h0 : w.output = w0.output), Nat.le_trans h0.size h.2.1, fun k hk => (h.2.2 k (Nat.lt_of_lt_of_le hk h0.size) (by omega)).trans (h0.block hk)⟩
theorem ExtR.size (h : ExtR rb w w') : w.heap.size ≤ w'.heap.size := h.2.1
theorem ExtR.blk (h : ExtR rb w w') {b : Nat} {t : TypeId} {cs : Array Value} (hb : Blk w b t cs) (hne : b ≠ rb) : Blk w' b t cs := (h.2.2 b hb.lt hne).trans hb
theorem ExtR.keepsT (h : ExtR rb w w') {t : TypeId} {cs : Array Value} (hr : Blk w rb t cs) : KeepsT t w w' := fun _ _ _ ht hb => h.blk hb (Blk.ne_ hb hr ht)
theorem ExtR.set {p : Addr} (hp : p.block = rb) (u : Value) : ExtR rb w (w.setCell p u) :=
  ⟨⟨rfl, rfl, rfl⟩, by simp [World.setCell], fun k _ hk => Below.heap_setCell w p u k (by omega)⟩
theorem ExtR.setNew (h : ExtR rb w w') {p : Addr} (hp : w.heap.size ≤ p.block) (u : Value) : ExtR rb w (w'.setCell p u) :=
  ⟨⟨h.1.1, h.1.2.1, h.1.2.2⟩, by simpa [World.setCell] using h.2.1, fun k hk hne => (Below.heap_setCell w' p u k (by omega)).trans (h.2.2 k hk hne)⟩
theorem ExtR.extend (h : ExtR rb w w') (e : Ext w' w'') : ExtR rb w w'' := h.trans (e.toR rb)
end
/-- the reader at rb: its bytes, and how far it is -/
def Rd (rb : Nat) (w : World) (q : Int) : Prop := ∃ A n c xs, Blk w rb 79 #[.slice A n c, .int .i64 q] ∧ UIn rb w A c xs ∧ xs.length = n ∧ n ≤ 2000 ∧ 0 ≤ q
theorem Rd.ext {rb : Nat} {w w' : World} {q : Int} (h : Rd rb w q) (e : Ext w w') : Rd rb w' q :=
  let ⟨A, n, c, xs, h1, h2, h3⟩ := h; ⟨A, n, c, xs, h1.ext e, h2.low (fun b hb => e.block (Nat.lt_trans hb h1.lt)), h3⟩
theorem SlIn.keepT {α : Type} {B : Nat} {t t' : TypeId} {sz : Nat} {E E' : World → Array Value → Nat → α → Prop} {w w' : World} {A : Option Addr} {c : Nat} {l : List α} (h : SlIn B t sz E w A c l) (hk : KeepsT t' w w') (ht : t ≠ t') (hE : ∀ cs p x, E w cs p x → E' w' cs p x) : SlIn B t sz E' w' A c l :=
  ⟨h.1, h.2.1, h.2.2.1, fun k x hx => let ⟨b, o, cs, e1, e2, e3, e4⟩ := h.2.2.2 k x hx; ⟨b, o, cs, e1, e2, hk _ _ _ ht e3, hE _ _ _ e4⟩⟩
theorem Rd.keepT {rb : Nat} {w w' : World} {q : Int} {t : TypeId} (h : Rd rb w q) (hk : KeepsT t w w') (h1 : 79 ≠ t) (hl : ∀ b, b < rb → w'.heap[b]? = w.heap[b]?) : Rd rb w' q :=
  let ⟨A, n, c, xs, a1, a2, a3⟩ := h; ⟨A, n, c, xs, hk _ _ _ h1 a1, a2.low hl, a3⟩
theorem ExtR.low {rb : Nat} {wa w w' : World} (h : ExtR rb wa w) (h' : ExtR rb wa w') (hr : rb < wa.heap.size) : ∀ b, b < rb → w'.heap[b]? = w.heap[b]? :=
  fun b hb => (h'.2.2 b (by omega) (by omega)).trans (h.2.2 b (by omega) (by omega)).symm
theorem low_set {rb : Nat} (w : World) (p : Addr) (u : Value) (hp : rb ≤ p.block) : ∀ b, b < rb → (w.setCell p u).heap[b]? = w.heap[b]? :=
  fun b hb => Below.heap_setCell w p u b (by omega)
theorem Rd.lt {rb : Nat} {w : World} {q : Int} (h : Rd rb w q) : rb < w.heap.size := let ⟨_, _, _, _, h1, _⟩ := h; h1.lt
/-- the reader has gone on -/
theorem Rd.next {rb : Nat} {w : World} {q : Int} (h : Rd rb w q) {w' : World} (e : Ext w w') : Rd rb (w'.setCell ⟨rb, 1, none⟩ (.int .i64 (q + 1))) (q + 1) := by
  obtain ⟨A, n, c, xs, h1, h2, h3, h4, h5⟩ := h.ext e
  refine ⟨A, n, c, xs, by simpa using h1.set_ 1 (.int .i64 (q + 1)), h2.low (low_set _ _ _ (Nat.le_refl _)), h3, h4, by omega⟩
theorem Rd.keepsT {rb : Nat} {w w' : World} {q : Int} (h : Rd rb w q) (e : ExtR rb w w') : KeepsT 79 w w' := let ⟨_, _, _, _, h1, _⟩ := h; e.keepsT h1
/-- what pick hands back -/
def PickP (rb : Nat) (w : World) (n q : Int) (e : Ending) (w' : World) : Prop :=
  ∃ v : Int, e = .returned (.int .i64 v) ∧ 0 ≤ v ∧ (1 ≤ n → v < n) ∧ (n < 1 → v = 0) ∧ Rd rb w' (q + 1) ∧ ExtR rb w w'
end Go.Sf
