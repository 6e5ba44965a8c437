/- slices.Delete at the tree's nodes, laid at this dump by the kit's tools in plain words. -/
import Derived.Shelf.SlicesE.Delete
import Derived.Ground.SlgnProg
import Derived.Test.YtmgnmfkkikmedaaGreatDoorProg
namespace Go.Proofs
open Go.Shelf
def Tryz.delNode_ren : Go.Shelf.Ren := ⟨fun | 45 => 170 | n => n, fun | 22 => 130 | 23 => 116 | 3 => 3 | 4 => 4 | 0 => 0 | n => n, fun | n => n⟩
theorem Tryz.delNode : Go.Proofs.SlLaysE.n45 Tryz.prog Tryz.delNode_ren := {
  mixed := by kernel_rfl
  f45 := ⟨Tryz.f170.name, by decide, Tryz.func170.trans (congrArg some (by kernel_rfl))⟩
  t0 := Tryz.underlying0
  a0 := Tryz.isAgg0
  z0 := Tryz.sizeOf0
  v0 := Tryz.zeroValue0
  t3 := Tryz.underlying3
  a3 := Tryz.isAgg3
  z3 := Tryz.sizeOf3
  v3 := Tryz.zeroValue3
  t4 := Tryz.underlying4
  a4 := Tryz.isAgg4
  z4 := Tryz.sizeOf4
  v4 := Tryz.zeroValue4
  t22 := Tryz.underlying130
  a22 := Tryz.isAgg130
  z22 := Tryz.sizeOf130
  v22 := Tryz.zeroValue130
  a23 := Tryz.isAgg116
  z23 := Tryz.sizeOf116 }
end Go.Proofs
