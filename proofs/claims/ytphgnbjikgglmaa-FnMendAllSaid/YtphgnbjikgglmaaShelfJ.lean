/- Contracts of maps.Keys and slices.Sorted at int keys, laid at this dump by the kit's tools in plain words. -/
import Derived.Shelf.SlIterI.Nil
import Derived.Shelf.SortM.Plain
import Derived.Shelf.SortM.SortNone
import Derived.Ground.GgzProg
import Derived.Ground.SlgmProg
import Derived.Test.YtphgnbjikgglmaaGhost
namespace Go.Proofs
open Go.RowKit Go.Maps Go.Sort Go.Shelf
def TryG.keysI_ren : Go.Shelf.Ren := ⟨fun | 7 => 57 | 10 => 86 | n => n, fun | 23 => 56 | 26 => 3 | 3 => 35 | 28 => 96 | 0 => 0 | 27 => 95 | 33 => 117 | 4 => 4 | n => n, fun | n => n⟩
theorem TryG.keysI : Go.Proofs.SlLaysZI.n7 TryG.prog TryG.keysI_ren := {
  mixed := by kernel_rfl
  f7 := ⟨TryG.f57.name, by decide, TryG.func57.trans (congrArg some (by kernel_rfl))⟩
  f10 := ⟨TryG.f86.name, by decide, TryG.func86.trans (congrArg some (by kernel_rfl))⟩
  t0 := TryG.underlying0
  a0 := TryG.isAgg0
  z0 := TryG.sizeOf0
  v0 := TryG.zeroValue0
  t4 := TryG.underlying4
  a4 := TryG.isAgg4
  z4 := TryG.sizeOf4
  v4 := TryG.zeroValue4
  t23 := TryG.underlying56
  a23 := TryG.isAgg56
  z23 := TryG.sizeOf56
  v23 := TryG.zeroValue56
  t26 := TryG.underlying3
  a26 := TryG.isAgg3
  z26 := TryG.sizeOf3
  v26 := TryG.zeroValue3
  t27 := TryG.underlying95
  a27 := TryG.isAgg95
  z27 := TryG.sizeOf95
  v27 := TryG.zeroValue95
  t28 := TryG.underlying96
  a28 := TryG.isAgg96
  z28 := TryG.sizeOf96
  v28 := TryG.zeroValue96
  t33 := TryG.underlying117
  a33 := TryG.isAgg117
  z33 := TryG.sizeOf117
  v33 := TryG.zeroValue117 }
def TryG.sortedI_ren : Go.Shelf.Ren := ⟨fun | 6 => 56 | 8 => 84 | 9 => 85 | 11 => 92 | 13 => 94 | 12 => 93 | 23 => 104 | 24 => 105 | 14 => 95 | 15 => 96 | 16 => 97 | 17 => 98 | 18 => 99 | 19 => 100 | 20 => 101 | 21 => 102 | 22 => 103 | 25 => 106 | 26 => 107 | 27 => 108 | 28 => 109 | 29 => 110 | 30 => 111 | 31 => 112 | n => n, fun | 26 => 3 | 28 => 96 | 24 => 32 | 0 => 0 | 3 => 3 | 37 => 107 | 48 => 89 | 50 => 86 | 4 => 4 | 40 => 129 | 39 => 128 | 45 => 134 | 5 => 5 | 9 => 9 | 51 => 138 | 55 => 141 | 57 => 143 | 58 => 144 | 33 => 117 | n => n, fun | n => n⟩
theorem TryG.sortedI : Go.Proofs.SlLaysZI.n6 TryG.prog TryG.sortedI_ren := {
  mixed := by kernel_rfl
  f6 := ⟨TryG.f56.name, by decide, TryG.func56.trans (congrArg some (by kernel_rfl))⟩
  f8 := ⟨TryG.f84.name, by decide, TryG.func84.trans (congrArg some (by kernel_rfl))⟩
  f11 := ⟨TryG.f92.name, by decide, TryG.func92.trans (congrArg some (by kernel_rfl))⟩
  t0 := TryG.underlying0
  a0 := TryG.isAgg0
  z0 := TryG.sizeOf0
  v0 := TryG.zeroValue0
  t24 := TryG.underlying32
  a24 := TryG.isAgg32
  z24 := TryG.sizeOf32
  v24 := TryG.zeroValue32
  t26 := TryG.underlying3
  a26 := TryG.isAgg3
  z26 := TryG.sizeOf3
  v26 := TryG.zeroValue3
  t28 := TryG.underlying96
  a28 := TryG.isAgg96
  z28 := TryG.sizeOf96
  v28 := TryG.zeroValue96
  i26 := by kernel_rfl }
def TryG.sortI_ren : Go.Shelf.Ren := ⟨fun | 5 => 85 | 8 => 94 | 7 => 93 | 19 => 104 | 20 => 105 | 10 => 95 | 11 => 96 | 12 => 97 | 13 => 98 | 14 => 99 | 15 => 100 | 16 => 101 | 17 => 102 | 18 => 103 | 30 => 106 | 31 => 107 | 32 => 108 | 33 => 109 | 34 => 110 | 35 => 111 | 40 => 112 | n => n, fun | 23 => 32 | 25 => 3 | 3 => 3 | 32 => 107 | 22 => 32 | 0 => 0 | 44 => 89 | 46 => 86 | 4 => 4 | 36 => 129 | 35 => 128 | 41 => 134 | 5 => 5 | 9 => 9 | 53 => 138 | 57 => 141 | 63 => 143 | 64 => 144 | n => n, fun | n => n⟩
theorem TryG.sortI : Go.Proofs.SlLaysM.n5 TryG.prog TryG.sortI_ren := {
  mixed := by kernel_rfl
  f5 := ⟨TryG.f85.name, by decide, TryG.func85.trans (congrArg some (by kernel_rfl))⟩
  f7 := ⟨TryG.f93.name, by decide, TryG.func93.trans (congrArg some (by kernel_rfl))⟩
  f8 := TryG.func94.trans (congrArg some (by kernel_rfl))
  f10 := ⟨TryG.f95.name, by decide, TryG.func95.trans (congrArg some (by kernel_rfl))⟩
  f11 := ⟨TryG.f96.name, by decide, TryG.func96.trans (congrArg some (by kernel_rfl))⟩
  f12 := ⟨TryG.f97.name, by decide, TryG.func97.trans (congrArg some (by kernel_rfl))⟩
  f13 := ⟨TryG.f98.name, by decide, TryG.func98.trans (congrArg some (by kernel_rfl))⟩
  f14 := ⟨TryG.f99.name, by decide, TryG.func99.trans (congrArg some (by kernel_rfl))⟩
  f15 := ⟨TryG.f100.name, by decide, TryG.func100.trans (congrArg some (by kernel_rfl))⟩
  f16 := ⟨TryG.f101.name, by decide, TryG.func101.trans (congrArg some (by kernel_rfl))⟩
  f17 := ⟨TryG.f102.name, by decide, TryG.func102.trans (congrArg some (by kernel_rfl))⟩
  f18 := ⟨TryG.f103.name, by decide, TryG.func103.trans (congrArg some (by kernel_rfl))⟩
  f19 := TryG.func104.trans (congrArg some (by kernel_rfl))
  f20 := TryG.func105.trans (congrArg some (by kernel_rfl))
  f30 := ⟨TryG.f106.name, by decide, TryG.func106.trans (congrArg some (by kernel_rfl))⟩
  f31 := TryG.func107.trans (congrArg some (by kernel_rfl))
  f32 := TryG.func108.trans (congrArg some (by kernel_rfl))
  f33 := ⟨TryG.f109.name, by decide, TryG.func109.trans (congrArg some (by kernel_rfl))⟩
  f34 := ⟨TryG.f110.name, by decide, TryG.func110.trans (congrArg some (by kernel_rfl))⟩
  f35 := ⟨TryG.f111.name, by decide, TryG.func111.trans (congrArg some (by kernel_rfl))⟩
  f40 := ⟨TryG.f112.name, by decide, TryG.func112.trans (congrArg some (by kernel_rfl))⟩
  t0 := TryG.underlying0
  a0 := TryG.isAgg0
  z0 := TryG.sizeOf0
  v0 := TryG.zeroValue0
  t3 := TryG.underlying3
  a3 := TryG.isAgg3
  z3 := TryG.sizeOf3
  v3 := TryG.zeroValue3
  t4 := TryG.underlying4
  a4 := TryG.isAgg4
  z4 := TryG.sizeOf4
  v4 := TryG.zeroValue4
  t5 := TryG.underlying5
  a5 := TryG.isAgg5
  z5 := TryG.sizeOf5
  v5 := TryG.zeroValue5
  t9 := TryG.underlying9
  a9 := TryG.isAgg9
  z9 := TryG.sizeOf9
  v9 := TryG.zeroValue9
  t22 := TryG.underlying32
  a22 := TryG.isAgg32
  z22 := TryG.sizeOf32
  v22 := TryG.zeroValue32
  t23 := TryG.underlying32
  a23 := TryG.isAgg32
  z23 := TryG.sizeOf32
  v23 := TryG.zeroValue32
  t25 := TryG.underlying3
  a25 := TryG.isAgg3
  z25 := TryG.sizeOf3
  v25 := TryG.zeroValue3
  t32 := TryG.underlying107
  a32 := TryG.isAgg107
  z32 := TryG.sizeOf107
  v32 := TryG.zeroValue107
  t35 := TryG.underlying128
  a35 := TryG.isAgg128
  z35 := TryG.sizeOf128
  v35 := TryG.zeroValue128
  t36 := TryG.underlying129
  a36 := TryG.isAgg129
  z36 := TryG.sizeOf129
  v36 := TryG.zeroValue129
  t41 := TryG.underlying134
  a41 := TryG.isAgg134
  z41 := TryG.sizeOf134
  v41 := TryG.zeroValue134
  t44 := TryG.underlying89
  a44 := TryG.isAgg89
  z44 := TryG.sizeOf89
  v44 := TryG.zeroValue89
  t46 := TryG.underlying86
  a46 := TryG.isAgg86
  z46 := TryG.sizeOf86
  v46 := TryG.zeroValue86
  t53 := TryG.underlying138
  a53 := TryG.isAgg138
  z53 := TryG.sizeOf138
  v53 := TryG.zeroValue138
  t57 := TryG.underlying141
  a57 := TryG.isAgg141
  z57 := TryG.sizeOf141
  v57 := TryG.zeroValue141
  t63 := TryG.underlying143
  a63 := TryG.isAgg143
  z63 := TryG.sizeOf143
  v63 := TryG.zeroValue143
  t64 := TryG.underlying144
  a64 := TryG.isAgg144
  z64 := TryG.sizeOf144
  v64 := TryG.zeroValue144 }
theorem TryG.sortsI (m : Nat) : AnyZI.SortsIn TryG.prog TryG.sortedI_ren Fence.wide m :=
  ⟨fun blk off cap ss W hH hblk hsz => callsIn_wide.2 (AnyM.slices_Sort_int TryG.sortI blk off cap ss W hH hblk hsz),
   fun p cap W => callsIn_wide.2 (AnyM.slices_Sort_int_none TryG.sortI p cap W)⟩
theorem TryG.maps_Keys_I (mb : Option Nat) (W : World) : Calls TryG.prog 57 #[.map mb] W fun e w' => e = .returned (.func (.func 86) #[] #[.pointer (some ⟨W.heap.size, 0, none⟩)]) ∧ w' = W.alloc (.cells #[.map mb] 56) :=
  (callsIn_wide (n := 5)).1 (AnyZI.keys_in TryG.keysI Fence.wide 5 trivial rfl mb W)
set_option maxHeartbeats 1000000 in
theorem TryG.slices_Sorted_I {H : Type} (b nn : Nat) (D0 : DataW H) (R : Value → Option (DataW H × List MemPlace)) (w : World) (hown : w.ownsMap TryG.prog 3 R b nn D0) (hmax : Maps.size D0 ≤ maxLen) (hbytes : Maps.size D0 * 8 ≤ 140737488355328) :
    Calls TryG.prog 56 #[.func (.func 86) #[] #[.pointer (some ⟨w.heap.size, 0, none⟩)]] (w.alloc (.cells #[.map (some b)] 56)) fun e w' => ∃ (v : Value) (ss : List Int), e = .returned v ∧ ss.Perm (intKeys D0) ∧
      w'.ownsRow (w.alloc (.cells #[.map (some b)] 56)).heap.size 3 1 v ss.length ((ss.mergeSort (fun x y => decide (x ≤ y))).map encZ) ∧ (v = .slice none 0 0 ↔ ss = []) ∧ Below (w.alloc (.cells #[.map (some b)] 56)).heap.size (w.alloc (.cells #[.map (some b)] 56)) w' := by
  have hbl := hown.lt
  have hseq : SeqGives Fence.wide 2 TryG.prog 86 #[.pointer (some ⟨w.heap.size, 0, none⟩)] encZ (fun ss => ss.Perm (intKeys D0)) (Maps.size D0) (w.alloc (.cells #[.map (some b)] 56)) :=
    AnyZI.keys_gives (ρ := TryG.keysI_ren) { TryG.keysI with } Fence.wide _ trivial rfl (by omega) w.heap.size b nn D0 _ (by simp) (by simp) (by
      obtain ⟨es, clock, hb, Ft, hs, hD⟩ := hown
      exact ⟨es, clock, (Below.heap_alloc _ _ b hbl).trans hb, Ft, hs, hD⟩)
  exact (callsIn_wide (n := 5)).1 (AnyZI.sorted_in TryG.sortedI Fence.wide 5 trivial trivial trivial trivial rfl (by omega) (TryG.sortsI _) (enters_of TryG.func85 (by kernel_rfl) rfl) 86 #[.pointer (some ⟨w.heap.size, 0, none⟩)] trivial (enters_of TryG.func86 (by kernel_rfl) rfl) _ _ hmax hbytes _ hseq)
end Go.Proofs
