/- From a law's walk to its row: bytes come in, true goes out. -/
import Derived.Test.YtpldhlpegpgmcaaDoorCards
import Derived.Test.YtpldhlpegpgmcaaDoorTie
import Derived.Test.YtpldhlpegpgmcaaDoorGE
import Derived.Test.YtpldhlpegpgmcaaDoorGA
import Derived.Test.YtpldhlpegpgmcaaDoorGC
import Derived.ProofKit
import Derived.Carry
import Derived.ChangeSlices
import Derived.Deep.DeepHandedRow
import Derived.Lib.LaidIn
import Derived.Shelf.Vars
import Derived.SevenTiedPlain
namespace Go.Proofs.YtpldhlpegpgmcaaDoor
open Go.ChangeShapes Go.WideShapes Go.ChangeAt Go.RowKit Go.Sf
theorem own : ownKnob Tryd.prog.godebug = none := by kernel_rfl
theorem laidOut : laidOutB Tryd.prog = true := by kernel_rfl
/-- the library's variable holds some int in every world that fits -/
theorem ml_of {W : World} (h : W.ShapedOpen Tryd.prog) : ML W :=
  cell_of_shapedOpen_int (t := 3) (zero := #[.int .i64 0]) h (of_decide_eq_true (by kernel_rfl)) (by kernel_rfl) (by kernel_rfl) (by kernel_rfl) (by kernel_rfl) Tryd.underlying3
theorem u8_bd {n : Int} (h : (Lit.int .u8 n).wf = true) : 0 ≤ n ∧ n ≤ 255 := by
  simp [Lit.wf, IntKind.min, IntKind.max, IntKind.signed, IntKind.bits] at h
  omega
set_option maxRecDepth 100000 in
/-- an argument of bytes: how it reads -/
theorem open_code {H : Type} {enc : TypeId × Value → H} {W : World} {base : Nat} {v : Value} {d : DataW H} {p : List MemPlace} (hval : Value.okWide Tryd.prog W .any base 22 v)
    (h : DataW.Trod enc Tryd.prog W 0 (fun _ => true) true 22 v d p) :
    (∃ xs, Bys W v xs ∧ xs.length ≤ 1048576) ∨ ∃ A n c, v = .slice A n c ∧ 1048576 < n ∧ n ≤ maxLen := by
  obtain ⟨a0, n0, c0, rfl⟩ := okWide_slice Tryd.underlying22 hval
  obtain ⟨fuel, hf⟩ := h
  rcases open_ints Tryd.underlying22 Tryd.underlying5 (by kernel_rfl) hf with ⟨hcs, -⟩ | ⟨a, n, c, zs, hcs, -, hl, hm, hz, -, hcell, hwf⟩
  · simp [Value.cells] at hcs
    obtain ⟨rfl, rfl, rfl⟩ := hcs
    exact .inl ⟨[], ⟨none, 0, rfl, Nat.le_refl _, ⟨Nat.zero_le _, fun _ => rfl⟩, Nat.zero_le _, fun k x h => by simp at h⟩, Nat.zero_le _⟩
  · simp [Value.cells] at hcs
    obtain ⟨rfl, rfl, rfl⟩ := hcs
    simp only [if_true] at hz
    by_cases hn : 1048576 < n0
    · exact .inr ⟨_, _, _, rfl, hn, Nat.le_trans hl hm⟩
    · have hlen : (zs.take n0).length = n0 := by simp; omega
      refine .inl ⟨zs.take n0, ⟨some a, c0, by rw [hlen], by rw [hlen]; exact hl, ⟨hm, fun h => by cases h⟩, by rw [hlen]; unfold lim; omega, ?_⟩, by omega⟩
      intro k x hx
      rw [List.getElem?_take] at hx
      split at hx
      case isFalse => cases hx
      have hk : k < zs.length := by omega
      have hc := hcell k hk
      obtain ⟨b, o, spot⟩ := a
      have hspot : spot = none := by simpa [Addr.add] using World.cell?_spot (hcell 0 (by omega))
      subst hspot
      rw [add_plain] at hc
      have hx' : zs.getD k 0 = x := by simp [List.getD, hx]
      rw [hx'] at hc
      have hw := u8_bd (hwf x (List.mem_of_getElem? hx))
      exact ⟨b, o, rfl, World.block_lt_of_cell? _ _ hc, hc, hw.1, hw.2⟩
/-- numbers of a table as cells -/
def lit1 : DataW Unit → List Value
  | .lit (.int k n) => [.int k n]
  | _ => []
def lits1 : DataW Unit → List Value
  | .agg ds => ds.flatMap lit1
  | d => lit1 d
def lits2 : DataW Unit → List Value
  | .agg ds => ds.flatMap lits1
  | d => lits1 d
/-- a world that holds the two tables -/
noncomputable def laidWorld (os : Os) : World :=
  let w0 := World.holding Tryd.prog os ⟨#[], #[], []⟩
  let put (h : Array Obj) (g : Nat) (cs : Array Value) : Array Obj := h.modify g fun
    | .cells _ t frozen => .cells cs t frozen
    | o => o
  let h1 := put w0.heap 1 (lits2 Rows.laid_unicode_utf8_first).toArray
  let h2 := put h1 2 (lits2 Rows.laid_unicode_utf8_acceptRanges).toArray
  { w0 with heap := h2 }
theorem laid_met (os : Os) (args : Array Value) : laidMet Tryd.prog Rows.fnVolumePartRow.laid ((laidWorld os).forCall (fun _ _ => 0) ⟨#[], args, []⟩).memory :=
  (LaidIn.of_run (l := Rows.fnVolumePartRow.laid) [1, 2] 8 (by kernel_rfl) (by kernel_rfl) (by kernel_rfl) (by kernel_rfl)).met
end Go.Proofs.YtpldhlpegpgmcaaDoor
