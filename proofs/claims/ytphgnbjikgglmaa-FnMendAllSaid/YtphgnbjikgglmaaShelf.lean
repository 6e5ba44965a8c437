/- Contracts of library functions, laid at this dump by the kit's tools in plain words. -/
import Derived.Shelf.Slices.Equal
import Derived.Ground.Names2Prog
import Derived.Shelf.Slices.Clone
import Derived.Shelf.Slices.Empties2
import Derived.Test.YtphgnbjikgglmaaGhost
namespace Go.Proofs
open Go.Shelf
def TryG.laysNm215_ren : Go.Shelf.Ren := ⟨fun | 15 => 33 | n => n, fun | 22 => 32 | 3 => 3 | 4 => 4 | n => n, fun | n => n⟩
theorem TryG.laysNm215 : Go.Proofs.Lays2.n15 TryG.prog TryG.laysNm215_ren := {
  mixed := by kernel_rfl
  f15 := TryG.func33.trans (congrArg some (by kernel_rfl))
  t3 := TryG.underlying3
  a3 := TryG.isAgg3
  z3 := TryG.sizeOf3
  v3 := TryG.zeroValue3
  t4 := TryG.underlying4
  a4 := TryG.isAgg4
  z4 := TryG.sizeOf4
  v4 := TryG.zeroValue4
  t22 := TryG.underlying32
  a22 := TryG.isAgg32
  z22 := TryG.sizeOf32
  v22 := TryG.zeroValue32
  i3 := by kernel_rfl }
open Go.RowKit Go.Lib in
theorem TryG.slices_Clone_int (b off n c : Nat) (zs : List Int) (w : World) (hz : n ≤ zs.length) (hbig : n * 8 ≤ 140737488355328) (hc : ∀ j, j < zs.length → w.cell? ⟨b, off + j, none⟩ = some (.int .i64 (zs.getD j 0))) :
    Calls TryG.prog 33 #[.slice (some ⟨b, off, none⟩) n c] w fun e w' => ∃ v', e = .returned v' ∧ w'.ownsRow w.heap.size 3 1 v' n ((zs.take n).map (Value.int .i64)) ∧ v' ≠ .slice none 0 0 ∧ Below w.heap.size w w' := Any.slices_Clone_int TryG.laysNm215 b off n c zs w hz hbig hc
open Go.RowKit Go.Lib in
theorem TryG.slices_Clone_int_nil (n c : Nat) (w : World) :
    Calls TryG.prog 33 #[.slice none n c] w fun e w' => e = .returned (.slice none 0 0) ∧ w' = w := Any.slices_Clone_int_nil TryG.laysNm215 n c w
open Go.RowKit Go.Lib in
theorem TryG.slices_Clone_int_zero (a : Addr) (c : Nat) (w : World) :
    Calls TryG.prog 33 #[.slice (some a) 0 c] w fun e w' => ∃ v', e = .returned v' ∧ w'.ownsRow w.heap.size 3 1 v' 0 [] ∧ v' ≠ .slice none 0 0 ∧ Below w.heap.size w w' := Any.slices_Clone_int_zero TryG.laysNm215 a c w
end Go.Proofs
