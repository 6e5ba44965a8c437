/- Arguments that are volumes; the exact law of VolumeValid. -/
import Derived.Test.YtphgnbjikgglmaaGQ
import Derived.Test.YtphgnbjikgglmaaHG
import Derived.Test.YtphgnbjikgglmaaShelfJ
set_option linter.all false
/-! Arguments that are volumes; the exact law of VolumeValid. -/
namespace Go.Sf
open Go Go.RowKit Go.Proofs
theorem HdsU.keepT {B : Nat} {t : TypeId} {w w' : World} {v : Value} {lu : List (Hd × Value)} (h : HdsU B w v lu) (hk : KeepsT t w w') (h1 : 35 ≠ t) (h2 : 3 ≠ t) : HdsU B w' v lu := SlOf.keepT h hk h1 fun _ _ _ h => h.keepT hk h2
end Go.Sf

/-! The blocks of a store are listed, in the order of their ids. -/
namespace Go.Sf
open Go Go.RowKit Go.Proofs Go.Maps Go.Sort
theorem StoreOk.idIn {s : List Hd} (hs : StoreOk s) {k : Nat} {x : Hd} (hx : s[k]? = some x) : inI x.id := by
  have := (hd_ok (hs.2 k x hx).1).1
  unfold inI; omega
/-- `make([]T, 0, n)` -/
theorem run_mk0 {P : Program} {T t : TypeId} {sz : Nat} (el : Elem P T t sz) (n : Nat) (hn : n ≤ lim) : ∃ cs : Array Value, cs.size = n * sz ∧
    ∀ W, (Instr.makeSlice T (.int .i64 0) (.int .i64 n)).run P W = .ok (.slice (some ⟨W.heap.size, 0, none⟩) 0 n) (W.alloc (.cells cs t)) := by
  obtain ⟨i, z, by_, hi, hz, hsz, hby, hb128, hzs⟩ := el.info
  refine ⟨madeCells z.cells (n * i.size), by rw [size_madeCells, hsz], fun W => ?_⟩
  have hm : by_ * n ≤ 128 * n := Nat.mul_le_mul_right _ hb128
  unfold lim at hn
  have := run_make (P := P) W T t i z el.under hi hz .i64 .i64 0 n (by omega) (by omega) (by rw [hby]; rw [← Int.natCast_mul]; omega) (by omega)
  simpa using this
theorem OwnS.made0 {α : Type} {B n : Nat} (t : TypeId) (sz : Nat) (E : World → Array Value → Nat → α → Prop) (w : World) (cs : Array Value) (hcs : cs.size = n * sz) (hB : B ≤ w.heap.size) (hn : n ≤ maxLen) :
    OwnS B t sz E (w.alloc (.cells cs t)) (.slice (some ⟨w.heap.size, 0, none⟩) 0 n) [] :=
  ⟨[], World.ownsRow_made w _ n hB hn hcs, fun k x h => by simp at h⟩
theorem ehdU_of {B : Nat} {w : World} {x : Hd} {u : Value} (h1 : inI x.id) (h2 : Ints B w u x.bytes) (h3 : inI x.uses) : EHdU B w #[.int .i64 x.id, u, .int .i64 x.uses] 0 (x, u) := ⟨rfl, h1, rfl, rfl, h3, h2⟩
theorem oneHd {i j : Int} {u : Value} (h : u.oneCell' = true) : ∀ c ∈ (#[.int .i64 i, u, .int .i64 j] : Array Value).toList, c.oneCell' = true := by
  intro c hc
  simp at hc
  rcases hc with rfl | rfl | rfl
  · rfl
  · exact h
  · rfl
end Go.Sf
