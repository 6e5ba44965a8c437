/- The facts of the program for the program of the ghost. -/
import Derived.Test.YtphgnbjikgglmaaProg
import Derived.KernelRfl
import Derived.Test.YtphgnbjikgglmaaKG
namespace Go.Proofs
open Go Go.Sf
noncomputable def TryG.prog : Program := GP
@[simp] theorem TryG.isAgg0 : ∀ (w : Go.World), Go.Sem.run Go.Proofs.TryG.prog (Go.isAgg 0) w = Go.Result.ok Bool.false w := fun w => by kernel_rfl
@[simp] theorem TryG.isAgg107 : ∀ (w : Go.World), Go.Sem.run Go.Proofs.TryG.prog (Go.isAgg 107) w = Go.Result.ok Bool.false w := fun w => by kernel_rfl
@[simp] theorem TryG.isAgg117 : ∀ (w : Go.World), Go.Sem.run Go.Proofs.TryG.prog (Go.isAgg 117) w = Go.Result.ok Bool.false w := fun w => by kernel_rfl
@[simp] theorem TryG.isAgg128 : ∀ (w : Go.World), Go.Sem.run Go.Proofs.TryG.prog (Go.isAgg 128) w = Go.Result.ok Bool.false w := fun w => by kernel_rfl
@[simp] theorem TryG.isAgg129 : ∀ (w : Go.World), Go.Sem.run Go.Proofs.TryG.prog (Go.isAgg 129) w = Go.Result.ok Bool.false w := fun w => by kernel_rfl
@[simp] theorem TryG.isAgg134 : ∀ (w : Go.World), Go.Sem.run Go.Proofs.TryG.prog (Go.isAgg 134) w = Go.Result.ok Bool.false w := fun w => by kernel_rfl
@[simp] theorem TryG.isAgg138 : ∀ (w : Go.World), Go.Sem.run Go.Proofs.TryG.prog (Go.isAgg 138) w = Go.Result.ok Bool.false w := fun w => by kernel_rfl
@[simp] theorem TryG.isAgg141 : ∀ (w : Go.World), Go.Sem.run Go.Proofs.TryG.prog (Go.isAgg 141) w = Go.Result.ok Bool.false w := fun w => by kernel_rfl
@[simp] theorem TryG.isAgg143 : ∀ (w : Go.World), Go.Sem.run Go.Proofs.TryG.prog (Go.isAgg 143) w = Go.Result.ok Bool.false w := fun w => by kernel_rfl
@[simp] theorem TryG.isAgg144 : ∀ (w : Go.World), Go.Sem.run Go.Proofs.TryG.prog (Go.isAgg 144) w = Go.Result.ok Bool.false w := fun w => by kernel_rfl
@[simp] theorem TryG.isAgg22 : ∀ (w : Go.World), Go.Sem.run Go.Proofs.TryG.prog (Go.isAgg 22) w = Go.Result.ok Bool.false w := fun w => by kernel_rfl
@[simp] theorem TryG.isAgg23 : ∀ (w : Go.World), Go.Sem.run Go.Proofs.TryG.prog (Go.isAgg 23) w = Go.Result.ok Bool.false w := fun w => by kernel_rfl
@[simp] theorem TryG.isAgg24 : ∀ (w : Go.World), Go.Sem.run Go.Proofs.TryG.prog (Go.isAgg 24) w = Go.Result.ok Bool.false w := fun w => by kernel_rfl
@[simp] theorem TryG.isAgg3 : ∀ (w : Go.World), Go.Sem.run Go.Proofs.TryG.prog (Go.isAgg 3) w = Go.Result.ok Bool.false w := fun w => by kernel_rfl
@[simp] theorem TryG.isAgg32 : ∀ (w : Go.World), Go.Sem.run Go.Proofs.TryG.prog (Go.isAgg 32) w = Go.Result.ok Bool.false w := fun w => by kernel_rfl
@[simp] theorem TryG.isAgg35 : ∀ (w : Go.World), Go.Sem.run Go.Proofs.TryG.prog (Go.isAgg 35) w = Go.Result.ok Bool.true w := fun w => by kernel_rfl
@[simp] theorem TryG.isAgg39 : ∀ (w : Go.World), Go.Sem.run Go.Proofs.TryG.prog (Go.isAgg 39) w = Go.Result.ok Bool.false w := fun w => by kernel_rfl
@[simp] theorem TryG.isAgg4 : ∀ (w : Go.World), Go.Sem.run Go.Proofs.TryG.prog (Go.isAgg 4) w = Go.Result.ok Bool.false w := fun w => by kernel_rfl
@[simp] theorem TryG.isAgg40 : ∀ (w : Go.World), Go.Sem.run Go.Proofs.TryG.prog (Go.isAgg 40) w = Go.Result.ok Bool.false w := fun w => by kernel_rfl
@[simp] theorem TryG.isAgg5 : ∀ (w : Go.World), Go.Sem.run Go.Proofs.TryG.prog (Go.isAgg 5) w = Go.Result.ok Bool.false w := fun w => by kernel_rfl
@[simp] theorem TryG.isAgg56 : ∀ (w : Go.World), Go.Sem.run Go.Proofs.TryG.prog (Go.isAgg 56) w = Go.Result.ok Bool.false w := fun w => by kernel_rfl
@[simp] theorem TryG.isAgg60 : ∀ (w : Go.World), Go.Sem.run Go.Proofs.TryG.prog (Go.isAgg 60) w = Go.Result.ok Bool.false w := fun w => by kernel_rfl
@[simp] theorem TryG.isAgg64 : ∀ (w : Go.World), Go.Sem.run Go.Proofs.TryG.prog (Go.isAgg 64) w = Go.Result.ok Bool.true w := fun w => by kernel_rfl
@[simp] theorem TryG.isAgg72 : ∀ (w : Go.World), Go.Sem.run Go.Proofs.TryG.prog (Go.isAgg 72) w = Go.Result.ok Bool.true w := fun w => by kernel_rfl
@[simp] theorem TryG.isAgg75 : ∀ (w : Go.World), Go.Sem.run Go.Proofs.TryG.prog (Go.isAgg 75) w = Go.Result.ok Bool.true w := fun w => by kernel_rfl
@[simp] theorem TryG.isAgg79 : ∀ (w : Go.World), Go.Sem.run Go.Proofs.TryG.prog (Go.isAgg 79) w = Go.Result.ok Bool.true w := fun w => by kernel_rfl
@[simp] theorem TryG.isAgg86 : ∀ (w : Go.World), Go.Sem.run Go.Proofs.TryG.prog (Go.isAgg 86) w = Go.Result.ok Bool.false w := fun w => by kernel_rfl
@[simp] theorem TryG.isAgg89 : ∀ (w : Go.World), Go.Sem.run Go.Proofs.TryG.prog (Go.isAgg 89) w = Go.Result.ok Bool.false w := fun w => by kernel_rfl
@[simp] theorem TryG.isAgg9 : ∀ (w : Go.World), Go.Sem.run Go.Proofs.TryG.prog (Go.isAgg 9) w = Go.Result.ok Bool.false w := fun w => by kernel_rfl
@[simp] theorem TryG.isAgg95 : ∀ (w : Go.World), Go.Sem.run Go.Proofs.TryG.prog (Go.isAgg 95) w = Go.Result.ok Bool.false w := fun w => by kernel_rfl
@[simp] theorem TryG.isAgg96 : ∀ (w : Go.World), Go.Sem.run Go.Proofs.TryG.prog (Go.isAgg 96) w = Go.Result.ok Bool.false w := fun w => by kernel_rfl
theorem TryG.nfree10 : Go.Proofs.Try.f10.nfree = 0 := Try.nfree10
theorem TryG.nfree100 : Go.Proofs.Try.f100.nfree = 0 := Try.nfree100
theorem TryG.nfree101 : Go.Proofs.Try.f101.nfree = 0 := Try.nfree101
theorem TryG.nfree102 : Go.Proofs.Try.f102.nfree = 0 := Try.nfree102
theorem TryG.nfree103 : Go.Proofs.Try.f103.nfree = 0 := Try.nfree103
theorem TryG.nfree104 : Go.Proofs.Try.f104.nfree = 0 := Try.nfree104
theorem TryG.nfree105 : Go.Proofs.Try.f105.nfree = 0 := Try.nfree105
theorem TryG.nfree106 : Go.Proofs.Try.f106.nfree = 0 := Try.nfree106
theorem TryG.nfree107 : Go.Proofs.Try.f107.nfree = 0 := Try.nfree107
theorem TryG.nfree108 : Go.Proofs.Try.f108.nfree = 0 := Try.nfree108
theorem TryG.nfree109 : Go.Proofs.Try.f109.nfree = 0 := Try.nfree109
theorem TryG.nfree11 : Go.Proofs.Try.f11.nfree = 0 := Try.nfree11
theorem TryG.nfree110 : Go.Proofs.Try.f110.nfree = 0 := Try.nfree110
theorem TryG.nfree111 : Go.Proofs.Try.f111.nfree = 0 := Try.nfree111
theorem TryG.nfree112 : Go.Proofs.Try.f112.nfree = 0 := Try.nfree112
theorem TryG.nfree12 : Go.Proofs.Try.f12.nfree = 0 := Try.nfree12
theorem TryG.nfree13 : Go.Proofs.Try.f13.nfree = 0 := Try.nfree13
theorem TryG.nfree14 : Go.Proofs.Try.f14.nfree = 0 := Try.nfree14
theorem TryG.nfree15 : Go.Proofs.Try.f15.nfree = 0 := Try.nfree15
theorem TryG.nfree16 : Go.Proofs.Try.f16.nfree = 0 := Try.nfree16
theorem TryG.nfree17 : Go.Proofs.Try.f17.nfree = 0 := Try.nfree17
theorem TryG.nfree18 : Go.Proofs.Try.f18.nfree = 0 := Try.nfree18
theorem TryG.nfree19 : Go.Proofs.Try.f19.nfree = 0 := Try.nfree19
theorem TryG.nfree20 : Go.Proofs.Try.f20.nfree = 0 := Try.nfree20
theorem TryG.nfree21 : Go.Proofs.Try.f21.nfree = 0 := Try.nfree21
theorem TryG.nfree22 : Go.Proofs.Try.f22.nfree = 0 := Try.nfree22
theorem TryG.nfree23 : Go.Proofs.Try.f23.nfree = 0 := Try.nfree23
theorem TryG.nfree24 : Go.Proofs.Try.f24.nfree = 0 := Try.nfree24
theorem TryG.nfree25 : Go.Proofs.Try.f25.nfree = 0 := Try.nfree25
theorem TryG.nfree26 : Go.Proofs.Try.f26.nfree = 0 := Try.nfree26
theorem TryG.nfree27 : Go.Proofs.Try.f27.nfree = 0 := Try.nfree27
theorem TryG.nfree28 : Go.Proofs.Try.f28.nfree = 0 := Try.nfree28
theorem TryG.nfree29 : Go.Proofs.Try.f29.nfree = 0 := Try.nfree29
theorem TryG.nfree3 : Go.Proofs.Try.f3.nfree = 0 := Try.nfree3
theorem TryG.nfree30 : Go.Proofs.Try.f30.nfree = 0 := Try.nfree30
theorem TryG.nfree31 : Go.Proofs.Try.f31.nfree = 0 := Try.nfree31
theorem TryG.nfree32 : Go.Proofs.Try.f32.nfree = 0 := Try.nfree32
theorem TryG.nfree33 : Go.Proofs.Try.f33.nfree = 0 := Try.nfree33
theorem TryG.nfree34 : Go.Proofs.Try.f34.nfree = 0 := Try.nfree34
theorem TryG.nfree35 : Go.Proofs.Try.f35.nfree = 0 := Try.nfree35
theorem TryG.nfree36 : Go.Proofs.Try.f36.nfree = 0 := Try.nfree36
theorem TryG.nfree37 : Go.Proofs.Try.f37.nfree = 0 := Try.nfree37
theorem TryG.nfree38 : Go.Proofs.Try.f38.nfree = 0 := Try.nfree38
theorem TryG.nfree39 : Go.Proofs.Try.f39.nfree = 0 := Try.nfree39
theorem TryG.nfree4 : Go.Proofs.Try.f4.nfree = 0 := Try.nfree4
theorem TryG.nfree40 : Go.Proofs.Try.f40.nfree = 0 := Try.nfree40
theorem TryG.nfree41 : Go.Proofs.Try.f41.nfree = 0 := Try.nfree41
theorem TryG.nfree42 : Go.Proofs.Try.f42.nfree = 0 := Try.nfree42
theorem TryG.nfree43 : Go.Proofs.Try.f43.nfree = 0 := Try.nfree43
theorem TryG.nfree44 : Go.Proofs.Try.f44.nfree = 0 := Try.nfree44
theorem TryG.nfree45 : Go.Proofs.Try.f45.nfree = 0 := Try.nfree45
theorem TryG.nfree46 : Go.Proofs.Try.f46.nfree = 0 := Try.nfree46
theorem TryG.nfree47 : Go.Proofs.Try.f47.nfree = 0 := Try.nfree47
theorem TryG.nfree48 : Go.Proofs.Try.f48.nfree = 0 := Try.nfree48
theorem TryG.nfree49 : Go.Proofs.Try.f49.nfree = 0 := Try.nfree49
theorem TryG.nfree5 : Go.Proofs.Try.f5.nfree = 0 := Try.nfree5
theorem TryG.nfree50 : Go.Proofs.Try.f50.nfree = 0 := Try.nfree50
theorem TryG.nfree54 : Go.Proofs.Try.f54.nfree = 0 := Try.nfree54
theorem TryG.nfree56 : Go.Proofs.Try.f56.nfree = 0 := Try.nfree56
theorem TryG.nfree57 : Go.Proofs.Try.f57.nfree = 0 := Try.nfree57
theorem TryG.nfree58 : Go.Proofs.Try.f58.nfree = 0 := Try.nfree58
theorem TryG.nfree59 : Go.Proofs.Try.f59.nfree = 0 := Try.nfree59
theorem TryG.nfree6 : Go.Proofs.Try.f6.nfree = 0 := Try.nfree6
theorem TryG.nfree60 : Go.Proofs.Try.f60.nfree = 0 := Try.nfree60
theorem TryG.nfree61 : Go.Proofs.Try.f61.nfree = 0 := Try.nfree61
theorem TryG.nfree62 : Go.Proofs.Try.f62.nfree = 0 := Try.nfree62
theorem TryG.nfree63 : Go.Proofs.Try.f63.nfree = 0 := Try.nfree63
theorem TryG.nfree64 : Go.Proofs.Try.f64.nfree = 0 := Try.nfree64
theorem TryG.nfree65 : Go.Proofs.Try.f65.nfree = 0 := Try.nfree65
theorem TryG.nfree8 : Go.Proofs.Try.f8.nfree = 0 := Try.nfree8
theorem TryG.nfree84 : Go.Proofs.Try.f84.nfree = 0 := Try.nfree84
theorem TryG.nfree85 : Go.Proofs.Try.f85.nfree = 0 := Try.nfree85
theorem TryG.nfree86 : Go.Proofs.Try.f86.nfree = 1 := Try.nfree86
theorem TryG.nfree9 : Go.Proofs.Try.f9.nfree = 0 := Try.nfree9
theorem TryG.nfree92 : Go.Proofs.Try.f92.nfree = 0 := Try.nfree92
theorem TryG.nfree93 : Go.Proofs.Try.f93.nfree = 0 := Try.nfree93
theorem TryG.nfree94 : Go.Proofs.Try.f94.nfree = 0 := Try.nfree94
theorem TryG.nfree95 : Go.Proofs.Try.f95.nfree = 0 := Try.nfree95
theorem TryG.nfree96 : Go.Proofs.Try.f96.nfree = 0 := Try.nfree96
theorem TryG.nfree97 : Go.Proofs.Try.f97.nfree = 0 := Try.nfree97
theorem TryG.nfree98 : Go.Proofs.Try.f98.nfree = 0 := Try.nfree98
theorem TryG.nfree99 : Go.Proofs.Try.f99.nfree = 0 := Try.nfree99
theorem TryG.ntmps0 : Go.Proofs.Try.f0.ntmps = 0 := Try.ntmps0
theorem TryG.ntmps1 : Go.Proofs.Try.f1.ntmps = 0 := Try.ntmps1
theorem TryG.ntmps10 : Go.Proofs.Try.f10.ntmps = 86 := Try.ntmps10
theorem TryG.ntmps100 : Go.Proofs.Try.f100.ntmps = 133 := Try.ntmps100
theorem TryG.ntmps101 : Go.Proofs.Try.f101.ntmps = 17 := Try.ntmps101
theorem TryG.ntmps102 : Go.Proofs.Try.f102.ntmps = 84 := Try.ntmps102
theorem TryG.ntmps103 : Go.Proofs.Try.f103.ntmps = 168 := Try.ntmps103
theorem TryG.ntmps104 : Go.Proofs.Try.f104.ntmps = 19 := Try.ntmps104
theorem TryG.ntmps105 : Go.Proofs.Try.f105.ntmps = 25 := Try.ntmps105
theorem TryG.ntmps106 : Go.Proofs.Try.f106.ntmps = 76 := Try.ntmps106
theorem TryG.ntmps107 : Go.Proofs.Try.f107.ntmps = 7 := Try.ntmps107
theorem TryG.ntmps108 : Go.Proofs.Try.f108.ntmps = 33 := Try.ntmps108
theorem TryG.ntmps109 : Go.Proofs.Try.f109.ntmps = 15 := Try.ntmps109
theorem TryG.ntmps11 : Go.Proofs.Try.f11.ntmps = 27 := Try.ntmps11
theorem TryG.ntmps110 : Go.Proofs.Try.f110.ntmps = 36 := Try.ntmps110
theorem TryG.ntmps111 : Go.Proofs.Try.f111.ntmps = 6 := Try.ntmps111
theorem TryG.ntmps112 : Go.Proofs.Try.f112.ntmps = 28 := Try.ntmps112
theorem TryG.ntmps12 : Go.Proofs.Try.f12.ntmps = 60 := Try.ntmps12
theorem TryG.ntmps13 : Go.Proofs.Try.f13.ntmps = 42 := Try.ntmps13
theorem TryG.ntmps14 : Go.Proofs.Try.f14.ntmps = 26 := Try.ntmps14
theorem TryG.ntmps15 : Go.Proofs.Try.f15.ntmps = 26 := Try.ntmps15
theorem TryG.ntmps16 : Go.Proofs.Try.f16.ntmps = 27 := Try.ntmps16
theorem TryG.ntmps17 : Go.Proofs.Try.f17.ntmps = 12 := Try.ntmps17
theorem TryG.ntmps18 : Go.Proofs.Try.f18.ntmps = 23 := Try.ntmps18
theorem TryG.ntmps19 : Go.Proofs.Try.f19.ntmps = 23 := Try.ntmps19
theorem TryG.ntmps2 : Go.Proofs.Try.f2.ntmps = 1 := Try.ntmps2
theorem TryG.ntmps20 : Go.Proofs.Try.f20.ntmps = 27 := Try.ntmps20
theorem TryG.ntmps21 : Go.Proofs.Try.f21.ntmps = 27 := Try.ntmps21
theorem TryG.ntmps22 : Go.Proofs.Try.f22.ntmps = 34 := Try.ntmps22
theorem TryG.ntmps23 : Go.Proofs.Try.f23.ntmps = 27 := Try.ntmps23
theorem TryG.ntmps24 : Go.Proofs.Try.f24.ntmps = 40 := Try.ntmps24
theorem TryG.ntmps25 : Go.Proofs.Try.f25.ntmps = 11 := Try.ntmps25
theorem TryG.ntmps26 : Go.Proofs.Try.f26.ntmps = 78 := Try.ntmps26
theorem TryG.ntmps27 : Go.Proofs.Try.f27.ntmps = 33 := Try.ntmps27
theorem TryG.ntmps28 : Go.Proofs.Try.f28.ntmps = 58 := Try.ntmps28
theorem TryG.ntmps29 : Go.Proofs.Try.f29.ntmps = 99 := Try.ntmps29
theorem TryG.ntmps3 : Go.Proofs.Try.f3.ntmps = 112 := Try.ntmps3
theorem TryG.ntmps30 : Go.Proofs.Try.f30.ntmps = 30 := Try.ntmps30
theorem TryG.ntmps31 : Go.Proofs.Try.f31.ntmps = 37 := Try.ntmps31
theorem TryG.ntmps32 : Go.Proofs.Try.f32.ntmps = 24 := Try.ntmps32
theorem TryG.ntmps33 : Go.Proofs.Try.f33.ntmps = 8 := Try.ntmps33
theorem TryG.ntmps34 : Go.Proofs.Try.f34.ntmps = 33 := Try.ntmps34
theorem TryG.ntmps35 : Go.Proofs.Try.f35.ntmps = 63 := Try.ntmps35
theorem TryG.ntmps36 : Go.Proofs.Try.f36.ntmps = 47 := Try.ntmps36
theorem TryG.ntmps37 : Go.Proofs.Try.f37.ntmps = 27 := Try.ntmps37
theorem TryG.ntmps38 : Go.Proofs.Try.f38.ntmps = 20 := Try.ntmps38
theorem TryG.ntmps39 : Go.Proofs.Try.f39.ntmps = 23 := Try.ntmps39
theorem TryG.ntmps4 : Go.Proofs.Try.f4.ntmps = 87 := Try.ntmps4
theorem TryG.ntmps40 : Go.Proofs.Try.f40.ntmps = 24 := Try.ntmps40
theorem TryG.ntmps41 : Go.Proofs.Try.f41.ntmps = 15 := Try.ntmps41
theorem TryG.ntmps42 : Go.Proofs.Try.f42.ntmps = 26 := Try.ntmps42
theorem TryG.ntmps43 : Go.Proofs.Try.f43.ntmps = 12 := Try.ntmps43
theorem TryG.ntmps44 : Go.Proofs.Try.f44.ntmps = 15 := Try.ntmps44
theorem TryG.ntmps45 : Go.Proofs.Try.f45.ntmps = 11 := Try.ntmps45
theorem TryG.ntmps46 : Go.Proofs.Try.f46.ntmps = 21 := Try.ntmps46
theorem TryG.ntmps47 : Go.Proofs.Try.f47.ntmps = 15 := Try.ntmps47
theorem TryG.ntmps48 : Go.Proofs.Try.f48.ntmps = 19 := Try.ntmps48
theorem TryG.ntmps49 : Go.Proofs.Try.f49.ntmps = 21 := Try.ntmps49
theorem TryG.ntmps5 : Go.Proofs.Try.f5.ntmps = 146 := Try.ntmps5
theorem TryG.ntmps50 : Go.Proofs.Try.f50.ntmps = 33 := Try.ntmps50
theorem TryG.ntmps51 : Go.Proofs.Try.f51.ntmps = 117 := Try.ntmps51
theorem TryG.ntmps52 : Go.Proofs.Try.f52.ntmps = 27 := Try.ntmps52
theorem TryG.ntmps53 : Go.Proofs.Try.f53.ntmps = 4 := Try.ntmps53
theorem TryG.ntmps54 : Go.Proofs.Try.f54.ntmps = 22 := Try.ntmps54
theorem TryG.ntmps55 : Go.Proofs.Try.f55.ntmps = 84 := Try.ntmps55
theorem TryG.ntmps56 : Go.Proofs.Try.f56.ntmps = 9 := Try.ntmps56
theorem TryG.ntmps57 : Go.Proofs.Try.f57.ntmps = 4 := Try.ntmps57
theorem TryG.ntmps58 : Go.Proofs.Try.f58.ntmps = 15 := Try.ntmps58
theorem TryG.ntmps59 : Go.Proofs.Try.f59.ntmps = 19 := Try.ntmps59
theorem TryG.ntmps6 : Go.Proofs.Try.f6.ntmps = 96 := Try.ntmps6
theorem TryG.ntmps60 : Go.Proofs.Try.f60.ntmps = 26 := Try.ntmps60
theorem TryG.ntmps61 : Go.Proofs.Try.f61.ntmps = 20 := Try.ntmps61
theorem TryG.ntmps62 : Go.Proofs.Try.f62.ntmps = 18 := Try.ntmps62
theorem TryG.ntmps63 : Go.Proofs.Try.f63.ntmps = 12 := Try.ntmps63
theorem TryG.ntmps64 : Go.Proofs.Try.f64.ntmps = 22 := Try.ntmps64
theorem TryG.ntmps65 : Go.Proofs.Try.f65.ntmps = 26 := Try.ntmps65
theorem TryG.ntmps7 : Go.Proofs.Try.f7.ntmps = 163 := Try.ntmps7
theorem TryG.ntmps8 : Go.Proofs.Try.f8.ntmps = 30 := Try.ntmps8
theorem TryG.ntmps84 : Go.Proofs.Try.f84.ntmps = 5 := Try.ntmps84
theorem TryG.ntmps85 : Go.Proofs.Try.f85.ntmps = 11 := Try.ntmps85
theorem TryG.ntmps86 : Go.Proofs.Try.f86.ntmps = 14 := Try.ntmps86
theorem TryG.ntmps9 : Go.Proofs.Try.f9.ntmps = 93 := Try.ntmps9
theorem TryG.ntmps92 : Go.Proofs.Try.f92.ntmps = 13 := Try.ntmps92
theorem TryG.ntmps93 : Go.Proofs.Try.f93.ntmps = 134 := Try.ntmps93
theorem TryG.ntmps94 : Go.Proofs.Try.f94.ntmps = 8 := Try.ntmps94
theorem TryG.ntmps95 : Go.Proofs.Try.f95.ntmps = 49 := Try.ntmps95
theorem TryG.ntmps96 : Go.Proofs.Try.f96.ntmps = 56 := Try.ntmps96
theorem TryG.ntmps97 : Go.Proofs.Try.f97.ntmps = 65 := Try.ntmps97
theorem TryG.ntmps98 : Go.Proofs.Try.f98.ntmps = 57 := Try.ntmps98
theorem TryG.ntmps99 : Go.Proofs.Try.f99.ntmps = 32 := Try.ntmps99
theorem TryG.params0 : Go.Proofs.Try.f0.params = #[] := Try.params0
theorem TryG.params1 : Go.Proofs.Try.f1.params = #[] := Try.params1
theorem TryG.params10 : Go.Proofs.Try.f10.params = #[23, 24, 23] := Try.params10
theorem TryG.params100 : Go.Proofs.Try.f100.params = #[32, 3, 3] := Try.params100
theorem TryG.params101 : Go.Proofs.Try.f101.params = #[3, 3] := Try.params101
theorem TryG.params102 : Go.Proofs.Try.f102.params = #[32, 3, 3, 3] := Try.params102
theorem TryG.params103 : Go.Proofs.Try.f103.params = #[32, 3, 3, 3] := Try.params103
theorem TryG.params104 : Go.Proofs.Try.f104.params = #[89] := Try.params104
theorem TryG.params105 : Go.Proofs.Try.f105.params = #[86] := Try.params105
theorem TryG.params106 : Go.Proofs.Try.f106.params = #[32, 3, 3, 3] := Try.params106
theorem TryG.params107 : Go.Proofs.Try.f107.params = #[3] := Try.params107
theorem TryG.params108 : Go.Proofs.Try.f108.params = #[143] := Try.params108
theorem TryG.params109 : Go.Proofs.Try.f109.params = #[32, 3, 141] := Try.params109
theorem TryG.params11 : Go.Proofs.Try.f11.params = #[23, 23] := Try.params11
theorem TryG.params110 : Go.Proofs.Try.f110.params = #[32, 3, 3, 3, 141] := Try.params110
theorem TryG.params111 : Go.Proofs.Try.f111.params = #[3] := Try.params111
theorem TryG.params112 : Go.Proofs.Try.f112.params = #[32, 3, 3, 141] := Try.params112
theorem TryG.params12 : Go.Proofs.Try.f12.params = #[23] := Try.params12
theorem TryG.params13 : Go.Proofs.Try.f13.params = #[23, 24] := Try.params13
theorem TryG.params14 : Go.Proofs.Try.f14.params = #[32, 32] := Try.params14
theorem TryG.params15 : Go.Proofs.Try.f15.params = #[23, 3] := Try.params15
theorem TryG.params16 : Go.Proofs.Try.f16.params = #[39, 3] := Try.params16
theorem TryG.params17 : Go.Proofs.Try.f17.params = #[40, 3] := Try.params17
theorem TryG.params18 : Go.Proofs.Try.f18.params = #[39] := Try.params18
theorem TryG.params19 : Go.Proofs.Try.f19.params = #[40] := Try.params19
theorem TryG.params2 : Go.Proofs.Try.f2.params = #[] := Try.params2
theorem TryG.params20 : Go.Proofs.Try.f20.params = #[23, 23] := Try.params20
theorem TryG.params21 : Go.Proofs.Try.f21.params = #[24, 24] := Try.params21
theorem TryG.params22 : Go.Proofs.Try.f22.params = #[23, 3] := Try.params22
theorem TryG.params23 : Go.Proofs.Try.f23.params = #[24, 3] := Try.params23
theorem TryG.params24 : Go.Proofs.Try.f24.params = #[23, 3] := Try.params24
theorem TryG.params25 : Go.Proofs.Try.f25.params = #[22] := Try.params25
theorem TryG.params26 : Go.Proofs.Try.f26.params = #[49] := Try.params26
theorem TryG.params27 : Go.Proofs.Try.f27.params = #[49, 23] := Try.params27
theorem TryG.params28 : Go.Proofs.Try.f28.params = #[49, 23] := Try.params28
theorem TryG.params29 : Go.Proofs.Try.f29.params = #[49, 3] := Try.params29
theorem TryG.params3 : Go.Proofs.Try.f3.params = #[22] := Try.params3
theorem TryG.params30 : Go.Proofs.Try.f30.params = #[23] := Try.params30
theorem TryG.params31 : Go.Proofs.Try.f31.params = #[24] := Try.params31
theorem TryG.params32 : Go.Proofs.Try.f32.params = #[56, 24] := Try.params32
theorem TryG.params33 : Go.Proofs.Try.f33.params = #[32] := Try.params33
theorem TryG.params34 : Go.Proofs.Try.f34.params = #[56] := Try.params34
theorem TryG.params35 : Go.Proofs.Try.f35.params = #[23] := Try.params35
theorem TryG.params36 : Go.Proofs.Try.f36.params = #[24] := Try.params36
theorem TryG.params37 : Go.Proofs.Try.f37.params = #[23] := Try.params37
theorem TryG.params38 : Go.Proofs.Try.f38.params = #[23, 3] := Try.params38
theorem TryG.params39 : Go.Proofs.Try.f39.params = #[23, 64] := Try.params39
theorem TryG.params4 : Go.Proofs.Try.f4.params = #[22] := Try.params4
theorem TryG.params40 : Go.Proofs.Try.f40.params = #[35, 35] := Try.params40
theorem TryG.params41 : Go.Proofs.Try.f41.params = #[32] := Try.params41
theorem TryG.params42 : Go.Proofs.Try.f42.params = #[32, 32] := Try.params42
theorem TryG.params43 : Go.Proofs.Try.f43.params = #[72, 3] := Try.params43
theorem TryG.params44 : Go.Proofs.Try.f44.params = #[72] := Try.params44
theorem TryG.params45 : Go.Proofs.Try.f45.params = #[75] := Try.params45
theorem TryG.params46 : Go.Proofs.Try.f46.params = #[35, 35] := Try.params46
theorem TryG.params47 : Go.Proofs.Try.f47.params = #[64, 64] := Try.params47
theorem TryG.params48 : Go.Proofs.Try.f48.params = #[32, 3] := Try.params48
theorem TryG.params49 : Go.Proofs.Try.f49.params = #[32, 3] := Try.params49
theorem TryG.params5 : Go.Proofs.Try.f5.params = #[22] := Try.params5
theorem TryG.params50 : Go.Proofs.Try.f50.params = #[23] := Try.params50
theorem TryG.params51 : Go.Proofs.Try.f51.params = #[99, 3] := Try.params51
theorem TryG.params52 : Go.Proofs.Try.f52.params = #[] := Try.params52
theorem TryG.params53 : Go.Proofs.Try.f53.params = #[99] := Try.params53
theorem TryG.params54 : Go.Proofs.Try.f54.params = #[32] := Try.params54
theorem TryG.params55 : Go.Proofs.Try.f55.params = #[99] := Try.params55
theorem TryG.params56 : Go.Proofs.Try.f56.params = #[96] := Try.params56
theorem TryG.params57 : Go.Proofs.Try.f57.params = #[56] := Try.params57
theorem TryG.params58 : Go.Proofs.Try.f58.params = #[3, 3, 3] := Try.params58
theorem TryG.params59 : Go.Proofs.Try.f59.params = #[32] := Try.params59
theorem TryG.params6 : Go.Proofs.Try.f6.params = #[22] := Try.params6
theorem TryG.params60 : Go.Proofs.Try.f60.params = #[32, 32] := Try.params60
theorem TryG.params61 : Go.Proofs.Try.f61.params = #[32] := Try.params61
theorem TryG.params62 : Go.Proofs.Try.f62.params = #[32] := Try.params62
theorem TryG.params63 : Go.Proofs.Try.f63.params = #[32, 3] := Try.params63
theorem TryG.params64 : Go.Proofs.Try.f64.params = #[32] := Try.params64
theorem TryG.params65 : Go.Proofs.Try.f65.params = #[32, 32] := Try.params65
theorem TryG.params7 : Go.Proofs.Try.f7.params = #[39, 40, 39] := Try.params7
theorem TryG.params8 : Go.Proofs.Try.f8.params = #[22] := Try.params8
theorem TryG.params84 : Go.Proofs.Try.f84.params = #[96] := Try.params84
theorem TryG.params85 : Go.Proofs.Try.f85.params = #[32] := Try.params85
theorem TryG.params86 : Go.Proofs.Try.f86.params = #[117] := Try.params86
theorem TryG.params9 : Go.Proofs.Try.f9.params = #[23, 24, 23] := Try.params9
theorem TryG.params92 : Go.Proofs.Try.f92.params = #[32, 96] := Try.params92
theorem TryG.params93 : Go.Proofs.Try.f93.params = #[32, 3, 3, 3] := Try.params93
theorem TryG.params94 : Go.Proofs.Try.f94.params = #[107] := Try.params94
theorem TryG.params95 : Go.Proofs.Try.f95.params = #[32, 3, 3] := Try.params95
theorem TryG.params96 : Go.Proofs.Try.f96.params = #[32, 3, 3] := Try.params96
theorem TryG.params97 : Go.Proofs.Try.f97.params = #[32, 3, 3] := Try.params97
theorem TryG.params98 : Go.Proofs.Try.f98.params = #[32, 3, 3] := Try.params98
theorem TryG.params99 : Go.Proofs.Try.f99.params = #[32, 3, 3] := Try.params99
theorem TryG.results0 : Go.Proofs.Try.f0.results = #[] := Try.results0
theorem TryG.results1 : Go.Proofs.Try.f1.results = #[] := Try.results1
theorem TryG.results10 : Go.Proofs.Try.f10.results = #[Go.ResultVar.tmp 6, Go.ResultVar.tmp 7, Go.ResultVar.tmp 8] := Try.results10
theorem TryG.results100 : Go.Proofs.Try.f100.results = #[Go.ResultVar.tmp 6] := Try.results100
theorem TryG.results101 : Go.Proofs.Try.f101.results = #[Go.ResultVar.tmp 4] := Try.results101
theorem TryG.results102 : Go.Proofs.Try.f102.results = #[Go.ResultVar.tmp 8] := Try.results102
theorem TryG.results103 : Go.Proofs.Try.f103.results = #[Go.ResultVar.tmp 8, Go.ResultVar.tmp 9] := Try.results103
theorem TryG.results104 : Go.Proofs.Try.f104.results = #[Go.ResultVar.tmp 2] := Try.results104
theorem TryG.results105 : Go.Proofs.Try.f105.results = #[Go.ResultVar.tmp 2] := Try.results105
theorem TryG.results106 : Go.Proofs.Try.f106.results = #[] := Try.results106
theorem TryG.results107 : Go.Proofs.Try.f107.results = #[Go.ResultVar.tmp 2] := Try.results107
theorem TryG.results108 : Go.Proofs.Try.f108.results = #[Go.ResultVar.tmp 2] := Try.results108
theorem TryG.results109 : Go.Proofs.Try.f109.results = #[Go.ResultVar.tmp 6] := Try.results109
theorem TryG.results11 : Go.Proofs.Try.f11.results = #[Go.ResultVar.tmp 4] := Try.results11
theorem TryG.results110 : Go.Proofs.Try.f110.results = #[Go.ResultVar.tmp 10] := Try.results110
theorem TryG.results111 : Go.Proofs.Try.f111.results = #[Go.ResultVar.tmp 2] := Try.results111
theorem TryG.results112 : Go.Proofs.Try.f112.results = #[Go.ResultVar.tmp 8, Go.ResultVar.tmp 9] := Try.results112
theorem TryG.results12 : Go.Proofs.Try.f12.results = #[Go.ResultVar.tmp 2] := Try.results12
theorem TryG.results13 : Go.Proofs.Try.f13.results = #[Go.ResultVar.tmp 4] := Try.results13
theorem TryG.results14 : Go.Proofs.Try.f14.results = #[Go.ResultVar.tmp 4] := Try.results14
theorem TryG.results15 : Go.Proofs.Try.f15.results = #[Go.ResultVar.tmp 4, Go.ResultVar.tmp 5] := Try.results15
theorem TryG.results16 : Go.Proofs.Try.f16.results = #[Go.ResultVar.tmp 4] := Try.results16
theorem TryG.results17 : Go.Proofs.Try.f17.results = #[Go.ResultVar.tmp 4] := Try.results17
theorem TryG.results18 : Go.Proofs.Try.f18.results = #[Go.ResultVar.tmp 2] := Try.results18
theorem TryG.results19 : Go.Proofs.Try.f19.results = #[Go.ResultVar.tmp 2] := Try.results19
theorem TryG.results2 : Go.Proofs.Try.f2.results = #[] := Try.results2
theorem TryG.results20 : Go.Proofs.Try.f20.results = #[Go.ResultVar.tmp 4] := Try.results20
theorem TryG.results21 : Go.Proofs.Try.f21.results = #[Go.ResultVar.tmp 4] := Try.results21
theorem TryG.results22 : Go.Proofs.Try.f22.results = #[Go.ResultVar.tmp 4] := Try.results22
theorem TryG.results23 : Go.Proofs.Try.f23.results = #[Go.ResultVar.tmp 4] := Try.results23
theorem TryG.results24 : Go.Proofs.Try.f24.results = #[Go.ResultVar.tmp 4] := Try.results24
theorem TryG.results25 : Go.Proofs.Try.f25.results = #[Go.ResultVar.tmp 2] := Try.results25
theorem TryG.results26 : Go.Proofs.Try.f26.results = #[Go.ResultVar.tmp 2] := Try.results26
theorem TryG.results27 : Go.Proofs.Try.f27.results = #[Go.ResultVar.tmp 4] := Try.results27
theorem TryG.results28 : Go.Proofs.Try.f28.results = #[Go.ResultVar.tmp 4] := Try.results28
theorem TryG.results29 : Go.Proofs.Try.f29.results = #[Go.ResultVar.tmp 4] := Try.results29
theorem TryG.results3 : Go.Proofs.Try.f3.results = #[Go.ResultVar.tmp 2] := Try.results3
theorem TryG.results30 : Go.Proofs.Try.f30.results = #[Go.ResultVar.tmp 2, Go.ResultVar.tmp 3] := Try.results30
theorem TryG.results31 : Go.Proofs.Try.f31.results = #[Go.ResultVar.tmp 2] := Try.results31
theorem TryG.results32 : Go.Proofs.Try.f32.results = #[Go.ResultVar.tmp 4] := Try.results32
theorem TryG.results33 : Go.Proofs.Try.f33.results = #[Go.ResultVar.tmp 2] := Try.results33
theorem TryG.results34 : Go.Proofs.Try.f34.results = #[Go.ResultVar.tmp 2] := Try.results34
theorem TryG.results35 : Go.Proofs.Try.f35.results = #[Go.ResultVar.tmp 2] := Try.results35
theorem TryG.results36 : Go.Proofs.Try.f36.results = #[Go.ResultVar.tmp 2] := Try.results36
theorem TryG.results37 : Go.Proofs.Try.f37.results = #[Go.ResultVar.tmp 2] := Try.results37
theorem TryG.results38 : Go.Proofs.Try.f38.results = #[Go.ResultVar.tmp 4] := Try.results38
theorem TryG.results39 : Go.Proofs.Try.f39.results = #[Go.ResultVar.tmp 4] := Try.results39
theorem TryG.results4 : Go.Proofs.Try.f4.results = #[Go.ResultVar.tmp 2] := Try.results4
theorem TryG.results40 : Go.Proofs.Try.f40.results = #[Go.ResultVar.tmp 4] := Try.results40
theorem TryG.results41 : Go.Proofs.Try.f41.results = #[Go.ResultVar.tmp 2] := Try.results41
theorem TryG.results42 : Go.Proofs.Try.f42.results = #[Go.ResultVar.tmp 4] := Try.results42
theorem TryG.results43 : Go.Proofs.Try.f43.results = #[Go.ResultVar.tmp 4] := Try.results43
theorem TryG.results44 : Go.Proofs.Try.f44.results = #[Go.ResultVar.cell 2 35] := Try.results44
theorem TryG.results45 : Go.Proofs.Try.f45.results = #[Go.ResultVar.cell 2 64] := Try.results45
theorem TryG.results46 : Go.Proofs.Try.f46.results = #[Go.ResultVar.tmp 4] := Try.results46
theorem TryG.results47 : Go.Proofs.Try.f47.results = #[Go.ResultVar.tmp 4] := Try.results47
theorem TryG.results48 : Go.Proofs.Try.f48.results = #[Go.ResultVar.tmp 4] := Try.results48
theorem TryG.results49 : Go.Proofs.Try.f49.results = #[Go.ResultVar.tmp 4] := Try.results49
theorem TryG.results5 : Go.Proofs.Try.f5.results = #[Go.ResultVar.tmp 2] := Try.results5
theorem TryG.results50 : Go.Proofs.Try.f50.results = #[Go.ResultVar.tmp 2, Go.ResultVar.tmp 3] := Try.results50
theorem TryG.results51 : Go.Proofs.Try.f51.results = #[] := Try.results51
theorem TryG.results52 : Go.Proofs.Try.f52.results = #[] := Try.results52
theorem TryG.results53 : Go.Proofs.Try.f53.results = #[] := Try.results53
theorem TryG.results54 : Go.Proofs.Try.f54.results = #[Go.ResultVar.tmp 2] := Try.results54
theorem TryG.results55 : Go.Proofs.Try.f55.results = #[] := Try.results55
theorem TryG.results56 : Go.Proofs.Try.f56.results = #[Go.ResultVar.tmp 2] := Try.results56
theorem TryG.results57 : Go.Proofs.Try.f57.results = #[Go.ResultVar.tmp 2] := Try.results57
theorem TryG.results58 : Go.Proofs.Try.f58.results = #[Go.ResultVar.tmp 6] := Try.results58
theorem TryG.results59 : Go.Proofs.Try.f59.results = #[Go.ResultVar.tmp 2] := Try.results59
theorem TryG.results6 : Go.Proofs.Try.f6.results = #[Go.ResultVar.tmp 2] := Try.results6
theorem TryG.results60 : Go.Proofs.Try.f60.results = #[Go.ResultVar.tmp 4] := Try.results60
theorem TryG.results61 : Go.Proofs.Try.f61.results = #[Go.ResultVar.tmp 2] := Try.results61
theorem TryG.results62 : Go.Proofs.Try.f62.results = #[Go.ResultVar.tmp 2] := Try.results62
theorem TryG.results63 : Go.Proofs.Try.f63.results = #[Go.ResultVar.tmp 4] := Try.results63
theorem TryG.results64 : Go.Proofs.Try.f64.results = #[Go.ResultVar.tmp 2] := Try.results64
theorem TryG.results65 : Go.Proofs.Try.f65.results = #[Go.ResultVar.tmp 4] := Try.results65
theorem TryG.results7 : Go.Proofs.Try.f7.results = #[Go.ResultVar.tmp 6] := Try.results7
theorem TryG.results8 : Go.Proofs.Try.f8.results = #[Go.ResultVar.tmp 2, Go.ResultVar.tmp 3, Go.ResultVar.tmp 4] := Try.results8
theorem TryG.results84 : Go.Proofs.Try.f84.results = #[Go.ResultVar.tmp 2] := Try.results84
theorem TryG.results85 : Go.Proofs.Try.f85.results = #[] := Try.results85
theorem TryG.results86 : Go.Proofs.Try.f86.results = #[] := Try.results86
theorem TryG.results9 : Go.Proofs.Try.f9.results = #[Go.ResultVar.tmp 6, Go.ResultVar.tmp 7, Go.ResultVar.tmp 8] := Try.results9
theorem TryG.results92 : Go.Proofs.Try.f92.results = #[Go.ResultVar.tmp 4] := Try.results92
theorem TryG.results93 : Go.Proofs.Try.f93.results = #[] := Try.results93
theorem TryG.results94 : Go.Proofs.Try.f94.results = #[Go.ResultVar.tmp 2] := Try.results94
theorem TryG.results95 : Go.Proofs.Try.f95.results = #[] := Try.results95
theorem TryG.results96 : Go.Proofs.Try.f96.results = #[] := Try.results96
theorem TryG.results97 : Go.Proofs.Try.f97.results = #[] := Try.results97
theorem TryG.results98 : Go.Proofs.Try.f98.results = #[Go.ResultVar.tmp 6, Go.ResultVar.tmp 7] := Try.results98
theorem TryG.results99 : Go.Proofs.Try.f99.results = #[] := Try.results99
@[simp] theorem TryG.runUnderlying0 : ∀ (w : Go.World), Go.Sem.run Go.Proofs.TryG.prog (Go.underlying 0) w = Go.Result.ok (Go.TypeDesc.tuple #[]) w := fun w => by kernel_rfl
@[simp] theorem TryG.runUnderlying107 : ∀ (w : Go.World), Go.Sem.run Go.Proofs.TryG.prog (Go.underlying 107) w = Go.Result.ok (Go.TypeDesc.int Go.IntKind.u64) w := fun w => by kernel_rfl
@[simp] theorem TryG.runUnderlying117 : ∀ (w : Go.World), Go.Sem.run Go.Proofs.TryG.prog (Go.underlying 117) w = Go.Result.ok (Go.TypeDesc.func #[3] #[4] Bool.false) w := fun w => by kernel_rfl
@[simp] theorem TryG.runUnderlying128 : ∀ (w : Go.World), Go.Sem.run Go.Proofs.TryG.prog (Go.underlying 128) w = Go.Result.ok (Go.TypeDesc.int Go.IntKind.i64) w := fun w => by kernel_rfl
@[simp] theorem TryG.runUnderlying129 : ∀ (w : Go.World), Go.Sem.run Go.Proofs.TryG.prog (Go.underlying 129) w = Go.Result.ok (Go.TypeDesc.tuple #[3, 128]) w := fun w => by kernel_rfl
@[simp] theorem TryG.runUnderlying134 : ∀ (w : Go.World), Go.Sem.run Go.Proofs.TryG.prog (Go.underlying 134) w = Go.Result.ok (Go.TypeDesc.tuple #[3, 4]) w := fun w => by kernel_rfl
@[simp] theorem TryG.runUnderlying138 : ∀ (w : Go.World), Go.Sem.run Go.Proofs.TryG.prog (Go.underlying 138) w = Go.Result.ok (Go.TypeDesc.int Go.IntKind.u64) w := fun w => by kernel_rfl
@[simp] theorem TryG.runUnderlying141 : ∀ (w : Go.World), Go.Sem.run Go.Proofs.TryG.prog (Go.underlying 141) w = Go.Result.ok (Go.TypeDesc.pointer 3) w := fun w => by kernel_rfl
@[simp] theorem TryG.runUnderlying143 : ∀ (w : Go.World), Go.Sem.run Go.Proofs.TryG.prog (Go.underlying 143) w = Go.Result.ok (Go.TypeDesc.pointer 138) w := fun w => by kernel_rfl
@[simp] theorem TryG.runUnderlying144 : ∀ (w : Go.World), Go.Sem.run Go.Proofs.TryG.prog (Go.underlying 144) w = Go.Result.ok (Go.TypeDesc.tuple #[3, 3]) w := fun w => by kernel_rfl
@[simp] theorem TryG.runUnderlying22 : ∀ (w : Go.World), Go.Sem.run Go.Proofs.TryG.prog (Go.underlying 22) w = Go.Result.ok (Go.TypeDesc.slice 5) w := fun w => by kernel_rfl
@[simp] theorem TryG.runUnderlying23 : ∀ (w : Go.World), Go.Sem.run Go.Proofs.TryG.prog (Go.underlying 23) w = Go.Result.ok (Go.TypeDesc.slice 35) w := fun w => by kernel_rfl
@[simp] theorem TryG.runUnderlying24 : ∀ (w : Go.World), Go.Sem.run Go.Proofs.TryG.prog (Go.underlying 24) w = Go.Result.ok (Go.TypeDesc.slice 64) w := fun w => by kernel_rfl
@[simp] theorem TryG.runUnderlying3 : ∀ (w : Go.World), Go.Sem.run Go.Proofs.TryG.prog (Go.underlying 3) w = Go.Result.ok (Go.TypeDesc.int Go.IntKind.i64) w := fun w => by kernel_rfl
@[simp] theorem TryG.runUnderlying32 : ∀ (w : Go.World), Go.Sem.run Go.Proofs.TryG.prog (Go.underlying 32) w = Go.Result.ok (Go.TypeDesc.slice 3) w := fun w => by kernel_rfl
@[simp] theorem TryG.runUnderlying35 : ∀ (w : Go.World), Go.Sem.run Go.Proofs.TryG.prog (Go.underlying 35) w = Go.Result.ok (Go.TypeDesc.struct #[{ name := "Id", type := 3, offset := 0, embedded := Bool.false, tag := "", pkgPath := "", byteOffset := 0 }, { name := "Bytes", type := 32, offset := 1, embedded := Bool.false, tag := "", pkgPath := "", byteOffset := 8 }, { name := "Uses", type := 3, offset := 2, embedded := Bool.false, tag := "", pkgPath := "", byteOffset := 32 }]) w := fun w => by kernel_rfl
@[simp] theorem TryG.runUnderlying39 : ∀ (w : Go.World), Go.Sem.run Go.Proofs.TryG.prog (Go.underlying 39) w = Go.Result.ok (Go.TypeDesc.slice 72) w := fun w => by kernel_rfl
@[simp] theorem TryG.runUnderlying4 : ∀ (w : Go.World), Go.Sem.run Go.Proofs.TryG.prog (Go.underlying 4) w = Go.Result.ok Go.TypeDesc.bool w := fun w => by kernel_rfl
@[simp] theorem TryG.runUnderlying40 : ∀ (w : Go.World), Go.Sem.run Go.Proofs.TryG.prog (Go.underlying 40) w = Go.Result.ok (Go.TypeDesc.slice 75) w := fun w => by kernel_rfl
@[simp] theorem TryG.runUnderlying5 : ∀ (w : Go.World), Go.Sem.run Go.Proofs.TryG.prog (Go.underlying 5) w = Go.Result.ok (Go.TypeDesc.int Go.IntKind.u8) w := fun w => by kernel_rfl
@[simp] theorem TryG.runUnderlying56 : ∀ (w : Go.World), Go.Sem.run Go.Proofs.TryG.prog (Go.underlying 56) w = Go.Result.ok (Go.TypeDesc.map 3 35) w := fun w => by kernel_rfl
@[simp] theorem TryG.runUnderlying60 : ∀ (w : Go.World), Go.Sem.run Go.Proofs.TryG.prog (Go.underlying 60) w = Go.Result.ok (Go.TypeDesc.slice 4) w := fun w => by kernel_rfl
@[simp] theorem TryG.runUnderlying64 : ∀ (w : Go.World), Go.Sem.run Go.Proofs.TryG.prog (Go.underlying 64) w = Go.Result.ok (Go.TypeDesc.struct #[{ name := "Id", type := 3, offset := 0, embedded := Bool.false, tag := "", pkgPath := "", byteOffset := 0 }, { name := "Sum", type := 3, offset := 1, embedded := Bool.false, tag := "", pkgPath := "", byteOffset := 8 }]) w := fun w => by kernel_rfl
@[simp] theorem TryG.runUnderlying72 : ∀ (w : Go.World), Go.Sem.run Go.Proofs.TryG.prog (Go.underlying 72) w = Go.Result.ok (Go.TypeDesc.struct #[{ name := "Id", type := 3, offset := 0, embedded := Bool.false, tag := "", pkgPath := "", byteOffset := 0 }, { name := "Bytes", type := 32, offset := 1, embedded := Bool.false, tag := "", pkgPath := "", byteOffset := 8 }, { name := "Uses", type := 3, offset := 2, embedded := Bool.false, tag := "", pkgPath := "", byteOffset := 32 }]) w := fun w => by kernel_rfl
@[simp] theorem TryG.runUnderlying75 : ∀ (w : Go.World), Go.Sem.run Go.Proofs.TryG.prog (Go.underlying 75) w = Go.Result.ok (Go.TypeDesc.struct #[{ name := "Id", type := 3, offset := 0, embedded := Bool.false, tag := "", pkgPath := "", byteOffset := 0 }, { name := "Sum", type := 3, offset := 1, embedded := Bool.false, tag := "", pkgPath := "", byteOffset := 8 }]) w := fun w => by kernel_rfl
@[simp] theorem TryG.runUnderlying79 : ∀ (w : Go.World), Go.Sem.run Go.Proofs.TryG.prog (Go.underlying 79) w = Go.Result.ok (Go.TypeDesc.struct #[{ name := "b", type := 22, offset := 0, embedded := Bool.false, tag := "", pkgPath := "loop.example/snapshotfiles/spec", byteOffset := 0 }, { name := "p", type := 3, offset := 1, embedded := Bool.false, tag := "", pkgPath := "loop.example/snapshotfiles/spec", byteOffset := 24 }]) w := fun w => by kernel_rfl
@[simp] theorem TryG.runUnderlying86 : ∀ (w : Go.World), Go.Sem.run Go.Proofs.TryG.prog (Go.underlying 86) w = Go.Result.ok (Go.TypeDesc.int Go.IntKind.u64) w := fun w => by kernel_rfl
@[simp] theorem TryG.runUnderlying89 : ∀ (w : Go.World), Go.Sem.run Go.Proofs.TryG.prog (Go.underlying 89) w = Go.Result.ok (Go.TypeDesc.int Go.IntKind.u32) w := fun w => by kernel_rfl
@[simp] theorem TryG.runUnderlying9 : ∀ (w : Go.World), Go.Sem.run Go.Proofs.TryG.prog (Go.underlying 9) w = Go.Result.ok Go.TypeDesc.string w := fun w => by kernel_rfl
@[simp] theorem TryG.runUnderlying95 : ∀ (w : Go.World), Go.Sem.run Go.Proofs.TryG.prog (Go.underlying 95) w = Go.Result.ok (Go.TypeDesc.func #[117] #[] Bool.false) w := fun w => by kernel_rfl
@[simp] theorem TryG.runUnderlying96 : ∀ (w : Go.World), Go.Sem.run Go.Proofs.TryG.prog (Go.underlying 96) w = Go.Result.ok (Go.TypeDesc.func #[117] #[] Bool.false) w := fun w => by kernel_rfl
@[simp] theorem TryG.sizeOf0 : ∀ (w : Go.World), Go.Sem.run Go.Proofs.TryG.prog (Go.sizeOf 0) w = Go.Result.ok 1 w := fun w => by kernel_rfl
@[simp] theorem TryG.sizeOf107 : ∀ (w : Go.World), Go.Sem.run Go.Proofs.TryG.prog (Go.sizeOf 107) w = Go.Result.ok 1 w := fun w => by kernel_rfl
@[simp] theorem TryG.sizeOf117 : ∀ (w : Go.World), Go.Sem.run Go.Proofs.TryG.prog (Go.sizeOf 117) w = Go.Result.ok 1 w := fun w => by kernel_rfl
@[simp] theorem TryG.sizeOf128 : ∀ (w : Go.World), Go.Sem.run Go.Proofs.TryG.prog (Go.sizeOf 128) w = Go.Result.ok 1 w := fun w => by kernel_rfl
@[simp] theorem TryG.sizeOf129 : ∀ (w : Go.World), Go.Sem.run Go.Proofs.TryG.prog (Go.sizeOf 129) w = Go.Result.ok 1 w := fun w => by kernel_rfl
@[simp] theorem TryG.sizeOf134 : ∀ (w : Go.World), Go.Sem.run Go.Proofs.TryG.prog (Go.sizeOf 134) w = Go.Result.ok 1 w := fun w => by kernel_rfl
@[simp] theorem TryG.sizeOf138 : ∀ (w : Go.World), Go.Sem.run Go.Proofs.TryG.prog (Go.sizeOf 138) w = Go.Result.ok 1 w := fun w => by kernel_rfl
@[simp] theorem TryG.sizeOf141 : ∀ (w : Go.World), Go.Sem.run Go.Proofs.TryG.prog (Go.sizeOf 141) w = Go.Result.ok 1 w := fun w => by kernel_rfl
@[simp] theorem TryG.sizeOf143 : ∀ (w : Go.World), Go.Sem.run Go.Proofs.TryG.prog (Go.sizeOf 143) w = Go.Result.ok 1 w := fun w => by kernel_rfl
@[simp] theorem TryG.sizeOf144 : ∀ (w : Go.World), Go.Sem.run Go.Proofs.TryG.prog (Go.sizeOf 144) w = Go.Result.ok 1 w := fun w => by kernel_rfl
@[simp] theorem TryG.sizeOf22 : ∀ (w : Go.World), Go.Sem.run Go.Proofs.TryG.prog (Go.sizeOf 22) w = Go.Result.ok 1 w := fun w => by kernel_rfl
@[simp] theorem TryG.sizeOf23 : ∀ (w : Go.World), Go.Sem.run Go.Proofs.TryG.prog (Go.sizeOf 23) w = Go.Result.ok 1 w := fun w => by kernel_rfl
@[simp] theorem TryG.sizeOf24 : ∀ (w : Go.World), Go.Sem.run Go.Proofs.TryG.prog (Go.sizeOf 24) w = Go.Result.ok 1 w := fun w => by kernel_rfl
@[simp] theorem TryG.sizeOf3 : ∀ (w : Go.World), Go.Sem.run Go.Proofs.TryG.prog (Go.sizeOf 3) w = Go.Result.ok 1 w := fun w => by kernel_rfl
@[simp] theorem TryG.sizeOf32 : ∀ (w : Go.World), Go.Sem.run Go.Proofs.TryG.prog (Go.sizeOf 32) w = Go.Result.ok 1 w := fun w => by kernel_rfl
@[simp] theorem TryG.sizeOf35 : ∀ (w : Go.World), Go.Sem.run Go.Proofs.TryG.prog (Go.sizeOf 35) w = Go.Result.ok 3 w := fun w => by kernel_rfl
@[simp] theorem TryG.sizeOf39 : ∀ (w : Go.World), Go.Sem.run Go.Proofs.TryG.prog (Go.sizeOf 39) w = Go.Result.ok 1 w := fun w => by kernel_rfl
@[simp] theorem TryG.sizeOf4 : ∀ (w : Go.World), Go.Sem.run Go.Proofs.TryG.prog (Go.sizeOf 4) w = Go.Result.ok 1 w := fun w => by kernel_rfl
@[simp] theorem TryG.sizeOf40 : ∀ (w : Go.World), Go.Sem.run Go.Proofs.TryG.prog (Go.sizeOf 40) w = Go.Result.ok 1 w := fun w => by kernel_rfl
@[simp] theorem TryG.sizeOf5 : ∀ (w : Go.World), Go.Sem.run Go.Proofs.TryG.prog (Go.sizeOf 5) w = Go.Result.ok 1 w := fun w => by kernel_rfl
@[simp] theorem TryG.sizeOf56 : ∀ (w : Go.World), Go.Sem.run Go.Proofs.TryG.prog (Go.sizeOf 56) w = Go.Result.ok 1 w := fun w => by kernel_rfl
@[simp] theorem TryG.sizeOf60 : ∀ (w : Go.World), Go.Sem.run Go.Proofs.TryG.prog (Go.sizeOf 60) w = Go.Result.ok 1 w := fun w => by kernel_rfl
@[simp] theorem TryG.sizeOf64 : ∀ (w : Go.World), Go.Sem.run Go.Proofs.TryG.prog (Go.sizeOf 64) w = Go.Result.ok 2 w := fun w => by kernel_rfl
@[simp] theorem TryG.sizeOf72 : ∀ (w : Go.World), Go.Sem.run Go.Proofs.TryG.prog (Go.sizeOf 72) w = Go.Result.ok 3 w := fun w => by kernel_rfl
@[simp] theorem TryG.sizeOf75 : ∀ (w : Go.World), Go.Sem.run Go.Proofs.TryG.prog (Go.sizeOf 75) w = Go.Result.ok 2 w := fun w => by kernel_rfl
@[simp] theorem TryG.sizeOf79 : ∀ (w : Go.World), Go.Sem.run Go.Proofs.TryG.prog (Go.sizeOf 79) w = Go.Result.ok 2 w := fun w => by kernel_rfl
@[simp] theorem TryG.sizeOf86 : ∀ (w : Go.World), Go.Sem.run Go.Proofs.TryG.prog (Go.sizeOf 86) w = Go.Result.ok 1 w := fun w => by kernel_rfl
@[simp] theorem TryG.sizeOf89 : ∀ (w : Go.World), Go.Sem.run Go.Proofs.TryG.prog (Go.sizeOf 89) w = Go.Result.ok 1 w := fun w => by kernel_rfl
@[simp] theorem TryG.sizeOf9 : ∀ (w : Go.World), Go.Sem.run Go.Proofs.TryG.prog (Go.sizeOf 9) w = Go.Result.ok 1 w := fun w => by kernel_rfl
@[simp] theorem TryG.sizeOf95 : ∀ (w : Go.World), Go.Sem.run Go.Proofs.TryG.prog (Go.sizeOf 95) w = Go.Result.ok 1 w := fun w => by kernel_rfl
@[simp] theorem TryG.sizeOf96 : ∀ (w : Go.World), Go.Sem.run Go.Proofs.TryG.prog (Go.sizeOf 96) w = Go.Result.ok 1 w := fun w => by kernel_rfl
@[simp] theorem TryG.underlying0 : Go.Proofs.TryG.prog.underlying 0 = Option.some (Go.TypeDesc.tuple #[]) := by kernel_rfl
@[simp] theorem TryG.underlying107 : Go.Proofs.TryG.prog.underlying 107 = Option.some (Go.TypeDesc.int Go.IntKind.u64) := by kernel_rfl
@[simp] theorem TryG.underlying117 : Go.Proofs.TryG.prog.underlying 117 = Option.some (Go.TypeDesc.func #[3] #[4] Bool.false) := by kernel_rfl
@[simp] theorem TryG.underlying128 : Go.Proofs.TryG.prog.underlying 128 = Option.some (Go.TypeDesc.int Go.IntKind.i64) := by kernel_rfl
@[simp] theorem TryG.underlying129 : Go.Proofs.TryG.prog.underlying 129 = Option.some (Go.TypeDesc.tuple #[3, 128]) := by kernel_rfl
@[simp] theorem TryG.underlying134 : Go.Proofs.TryG.prog.underlying 134 = Option.some (Go.TypeDesc.tuple #[3, 4]) := by kernel_rfl
@[simp] theorem TryG.underlying138 : Go.Proofs.TryG.prog.underlying 138 = Option.some (Go.TypeDesc.int Go.IntKind.u64) := by kernel_rfl
@[simp] theorem TryG.underlying141 : Go.Proofs.TryG.prog.underlying 141 = Option.some (Go.TypeDesc.pointer 3) := by kernel_rfl
@[simp] theorem TryG.underlying143 : Go.Proofs.TryG.prog.underlying 143 = Option.some (Go.TypeDesc.pointer 138) := by kernel_rfl
@[simp] theorem TryG.underlying144 : Go.Proofs.TryG.prog.underlying 144 = Option.some (Go.TypeDesc.tuple #[3, 3]) := by kernel_rfl
@[simp] theorem TryG.underlying22 : Go.Proofs.TryG.prog.underlying 22 = Option.some (Go.TypeDesc.slice 5) := by kernel_rfl
@[simp] theorem TryG.underlying23 : Go.Proofs.TryG.prog.underlying 23 = Option.some (Go.TypeDesc.slice 35) := by kernel_rfl
@[simp] theorem TryG.underlying24 : Go.Proofs.TryG.prog.underlying 24 = Option.some (Go.TypeDesc.slice 64) := by kernel_rfl
@[simp] theorem TryG.underlying3 : Go.Proofs.TryG.prog.underlying 3 = Option.some (Go.TypeDesc.int Go.IntKind.i64) := by kernel_rfl
@[simp] theorem TryG.underlying32 : Go.Proofs.TryG.prog.underlying 32 = Option.some (Go.TypeDesc.slice 3) := by kernel_rfl
@[simp] theorem TryG.underlying35 : Go.Proofs.TryG.prog.underlying 35 = Option.some (Go.TypeDesc.struct #[{ name := "Id", type := 3, offset := 0, embedded := Bool.false, tag := "", pkgPath := "", byteOffset := 0 }, { name := "Bytes", type := 32, offset := 1, embedded := Bool.false, tag := "", pkgPath := "", byteOffset := 8 }, { name := "Uses", type := 3, offset := 2, embedded := Bool.false, tag := "", pkgPath := "", byteOffset := 32 }]) := by kernel_rfl
@[simp] theorem TryG.underlying39 : Go.Proofs.TryG.prog.underlying 39 = Option.some (Go.TypeDesc.slice 72) := by kernel_rfl
@[simp] theorem TryG.underlying4 : Go.Proofs.TryG.prog.underlying 4 = Option.some Go.TypeDesc.bool := by kernel_rfl
@[simp] theorem TryG.underlying40 : Go.Proofs.TryG.prog.underlying 40 = Option.some (Go.TypeDesc.slice 75) := by kernel_rfl
@[simp] theorem TryG.underlying5 : Go.Proofs.TryG.prog.underlying 5 = Option.some (Go.TypeDesc.int Go.IntKind.u8) := by kernel_rfl
@[simp] theorem TryG.underlying56 : Go.Proofs.TryG.prog.underlying 56 = Option.some (Go.TypeDesc.map 3 35) := by kernel_rfl
@[simp] theorem TryG.underlying60 : Go.Proofs.TryG.prog.underlying 60 = Option.some (Go.TypeDesc.slice 4) := by kernel_rfl
@[simp] theorem TryG.underlying64 : Go.Proofs.TryG.prog.underlying 64 = Option.some (Go.TypeDesc.struct #[{ name := "Id", type := 3, offset := 0, embedded := Bool.false, tag := "", pkgPath := "", byteOffset := 0 }, { name := "Sum", type := 3, offset := 1, embedded := Bool.false, tag := "", pkgPath := "", byteOffset := 8 }]) := by kernel_rfl
@[simp] theorem TryG.underlying72 : Go.Proofs.TryG.prog.underlying 72 = Option.some (Go.TypeDesc.struct #[{ name := "Id", type := 3, offset := 0, embedded := Bool.false, tag := "", pkgPath := "", byteOffset := 0 }, { name := "Bytes", type := 32, offset := 1, embedded := Bool.false, tag := "", pkgPath := "", byteOffset := 8 }, { name := "Uses", type := 3, offset := 2, embedded := Bool.false, tag := "", pkgPath := "", byteOffset := 32 }]) := by kernel_rfl
@[simp] theorem TryG.underlying75 : Go.Proofs.TryG.prog.underlying 75 = Option.some (Go.TypeDesc.struct #[{ name := "Id", type := 3, offset := 0, embedded := Bool.false, tag := "", pkgPath := "", byteOffset := 0 }, { name := "Sum", type := 3, offset := 1, embedded := Bool.false, tag := "", pkgPath := "", byteOffset := 8 }]) := by kernel_rfl
@[simp] theorem TryG.underlying79 : Go.Proofs.TryG.prog.underlying 79 = Option.some (Go.TypeDesc.struct #[{ name := "b", type := 22, offset := 0, embedded := Bool.false, tag := "", pkgPath := "loop.example/snapshotfiles/spec", byteOffset := 0 }, { name := "p", type := 3, offset := 1, embedded := Bool.false, tag := "", pkgPath := "loop.example/snapshotfiles/spec", byteOffset := 24 }]) := by kernel_rfl
@[simp] theorem TryG.underlying86 : Go.Proofs.TryG.prog.underlying 86 = Option.some (Go.TypeDesc.int Go.IntKind.u64) := by kernel_rfl
@[simp] theorem TryG.underlying89 : Go.Proofs.TryG.prog.underlying 89 = Option.some (Go.TypeDesc.int Go.IntKind.u32) := by kernel_rfl
@[simp] theorem TryG.underlying9 : Go.Proofs.TryG.prog.underlying 9 = Option.some Go.TypeDesc.string := by kernel_rfl
@[simp] theorem TryG.underlying95 : Go.Proofs.TryG.prog.underlying 95 = Option.some (Go.TypeDesc.func #[117] #[] Bool.false) := by kernel_rfl
@[simp] theorem TryG.underlying96 : Go.Proofs.TryG.prog.underlying 96 = Option.some (Go.TypeDesc.func #[117] #[] Bool.false) := by kernel_rfl
@[simp] theorem TryG.zeroValue0 : ∀ (w : Go.World), Go.Sem.run Go.Proofs.TryG.prog (Go.zeroValue 0) w = Go.Result.ok (Go.Value.tuple #[]) w := fun w => by kernel_rfl
@[simp] theorem TryG.zeroValue107 : ∀ (w : Go.World), Go.Sem.run Go.Proofs.TryG.prog (Go.zeroValue 107) w = Go.Result.ok (Go.Value.int Go.IntKind.u64 0) w := fun w => by kernel_rfl
@[simp] theorem TryG.zeroValue117 : ∀ (w : Go.World), Go.Sem.run Go.Proofs.TryG.prog (Go.zeroValue 117) w = Go.Result.ok Go.Value.nilFunc w := fun w => by kernel_rfl
@[simp] theorem TryG.zeroValue128 : ∀ (w : Go.World), Go.Sem.run Go.Proofs.TryG.prog (Go.zeroValue 128) w = Go.Result.ok (Go.Value.int Go.IntKind.i64 0) w := fun w => by kernel_rfl
@[simp] theorem TryG.zeroValue129 : ∀ (w : Go.World), Go.Sem.run Go.Proofs.TryG.prog (Go.zeroValue 129) w = Go.Result.ok (Go.Value.tuple #[Go.Value.int Go.IntKind.i64 0, Go.Value.int Go.IntKind.i64 0]) w := fun w => by kernel_rfl
@[simp] theorem TryG.zeroValue134 : ∀ (w : Go.World), Go.Sem.run Go.Proofs.TryG.prog (Go.zeroValue 134) w = Go.Result.ok (Go.Value.tuple #[Go.Value.int Go.IntKind.i64 0, Go.Value.bool Bool.false]) w := fun w => by kernel_rfl
@[simp] theorem TryG.zeroValue138 : ∀ (w : Go.World), Go.Sem.run Go.Proofs.TryG.prog (Go.zeroValue 138) w = Go.Result.ok (Go.Value.int Go.IntKind.u64 0) w := fun w => by kernel_rfl
@[simp] theorem TryG.zeroValue141 : ∀ (w : Go.World), Go.Sem.run Go.Proofs.TryG.prog (Go.zeroValue 141) w = Go.Result.ok (Go.Value.pointer Option.none) w := fun w => by kernel_rfl
@[simp] theorem TryG.zeroValue143 : ∀ (w : Go.World), Go.Sem.run Go.Proofs.TryG.prog (Go.zeroValue 143) w = Go.Result.ok (Go.Value.pointer Option.none) w := fun w => by kernel_rfl
@[simp] theorem TryG.zeroValue144 : ∀ (w : Go.World), Go.Sem.run Go.Proofs.TryG.prog (Go.zeroValue 144) w = Go.Result.ok (Go.Value.tuple #[Go.Value.int Go.IntKind.i64 0, Go.Value.int Go.IntKind.i64 0]) w := fun w => by kernel_rfl
@[simp] theorem TryG.zeroValue22 : ∀ (w : Go.World), Go.Sem.run Go.Proofs.TryG.prog (Go.zeroValue 22) w = Go.Result.ok (Go.Value.slice Option.none 0 0) w := fun w => by kernel_rfl
@[simp] theorem TryG.zeroValue23 : ∀ (w : Go.World), Go.Sem.run Go.Proofs.TryG.prog (Go.zeroValue 23) w = Go.Result.ok (Go.Value.slice Option.none 0 0) w := fun w => by kernel_rfl
@[simp] theorem TryG.zeroValue24 : ∀ (w : Go.World), Go.Sem.run Go.Proofs.TryG.prog (Go.zeroValue 24) w = Go.Result.ok (Go.Value.slice Option.none 0 0) w := fun w => by kernel_rfl
@[simp] theorem TryG.zeroValue3 : ∀ (w : Go.World), Go.Sem.run Go.Proofs.TryG.prog (Go.zeroValue 3) w = Go.Result.ok (Go.Value.int Go.IntKind.i64 0) w := fun w => by kernel_rfl
@[simp] theorem TryG.zeroValue32 : ∀ (w : Go.World), Go.Sem.run Go.Proofs.TryG.prog (Go.zeroValue 32) w = Go.Result.ok (Go.Value.slice Option.none 0 0) w := fun w => by kernel_rfl
@[simp] theorem TryG.zeroValue35 : ∀ (w : Go.World), Go.Sem.run Go.Proofs.TryG.prog (Go.zeroValue 35) w = Go.Result.ok (Go.Value.agg #[Go.Value.int Go.IntKind.i64 0, Go.Value.slice Option.none 0 0, Go.Value.int Go.IntKind.i64 0]) w := fun w => by kernel_rfl
@[simp] theorem TryG.zeroValue39 : ∀ (w : Go.World), Go.Sem.run Go.Proofs.TryG.prog (Go.zeroValue 39) w = Go.Result.ok (Go.Value.slice Option.none 0 0) w := fun w => by kernel_rfl
@[simp] theorem TryG.zeroValue4 : ∀ (w : Go.World), Go.Sem.run Go.Proofs.TryG.prog (Go.zeroValue 4) w = Go.Result.ok (Go.Value.bool Bool.false) w := fun w => by kernel_rfl
@[simp] theorem TryG.zeroValue40 : ∀ (w : Go.World), Go.Sem.run Go.Proofs.TryG.prog (Go.zeroValue 40) w = Go.Result.ok (Go.Value.slice Option.none 0 0) w := fun w => by kernel_rfl
@[simp] theorem TryG.zeroValue5 : ∀ (w : Go.World), Go.Sem.run Go.Proofs.TryG.prog (Go.zeroValue 5) w = Go.Result.ok (Go.Value.int Go.IntKind.u8 0) w := fun w => by kernel_rfl
@[simp] theorem TryG.zeroValue56 : ∀ (w : Go.World), Go.Sem.run Go.Proofs.TryG.prog (Go.zeroValue 56) w = Go.Result.ok (Go.Value.map Option.none) w := fun w => by kernel_rfl
@[simp] theorem TryG.zeroValue60 : ∀ (w : Go.World), Go.Sem.run Go.Proofs.TryG.prog (Go.zeroValue 60) w = Go.Result.ok (Go.Value.slice Option.none 0 0) w := fun w => by kernel_rfl
@[simp] theorem TryG.zeroValue64 : ∀ (w : Go.World), Go.Sem.run Go.Proofs.TryG.prog (Go.zeroValue 64) w = Go.Result.ok (Go.Value.agg #[Go.Value.int Go.IntKind.i64 0, Go.Value.int Go.IntKind.i64 0]) w := fun w => by kernel_rfl
@[simp] theorem TryG.zeroValue72 : ∀ (w : Go.World), Go.Sem.run Go.Proofs.TryG.prog (Go.zeroValue 72) w = Go.Result.ok (Go.Value.agg #[Go.Value.int Go.IntKind.i64 0, Go.Value.slice Option.none 0 0, Go.Value.int Go.IntKind.i64 0]) w := fun w => by kernel_rfl
@[simp] theorem TryG.zeroValue75 : ∀ (w : Go.World), Go.Sem.run Go.Proofs.TryG.prog (Go.zeroValue 75) w = Go.Result.ok (Go.Value.agg #[Go.Value.int Go.IntKind.i64 0, Go.Value.int Go.IntKind.i64 0]) w := fun w => by kernel_rfl
@[simp] theorem TryG.zeroValue79 : ∀ (w : Go.World), Go.Sem.run Go.Proofs.TryG.prog (Go.zeroValue 79) w = Go.Result.ok (Go.Value.agg #[Go.Value.slice Option.none 0 0, Go.Value.int Go.IntKind.i64 0]) w := fun w => by kernel_rfl
@[simp] theorem TryG.zeroValue86 : ∀ (w : Go.World), Go.Sem.run Go.Proofs.TryG.prog (Go.zeroValue 86) w = Go.Result.ok (Go.Value.int Go.IntKind.u64 0) w := fun w => by kernel_rfl
@[simp] theorem TryG.zeroValue89 : ∀ (w : Go.World), Go.Sem.run Go.Proofs.TryG.prog (Go.zeroValue 89) w = Go.Result.ok (Go.Value.int Go.IntKind.u32 0) w := fun w => by kernel_rfl
@[simp] theorem TryG.zeroValue9 : ∀ (w : Go.World), Go.Sem.run Go.Proofs.TryG.prog (Go.zeroValue 9) w = Go.Result.ok (Go.Value.string { data := #[] }) w := fun w => by kernel_rfl
@[simp] theorem TryG.zeroValue95 : ∀ (w : Go.World), Go.Sem.run Go.Proofs.TryG.prog (Go.zeroValue 95) w = Go.Result.ok Go.Value.nilFunc w := fun w => by kernel_rfl
@[simp] theorem TryG.zeroValue96 : ∀ (w : Go.World), Go.Sem.run Go.Proofs.TryG.prog (Go.zeroValue 96) w = Go.Result.ok Go.Value.nilFunc w := fun w => by kernel_rfl
noncomputable abbrev TryG.f2 : Func := Try.f2
theorem TryG.fine2 : funcFine Try.prog Try.f2 = true := by kernel_rfl
@[simp] theorem TryG.func2 : TryG.prog.funcs[2]? = some Try.f2 := func_ghost Try.func2 TryG.fine2 (by decide)
@[simp] theorem TryG.call2 (args : Array Value) (w : World) : Sem.run TryG.prog (callFunc 2 args) w = .ok (.enter 2 args) w := call_ghost Try.func2 TryG.fine2 (by decide) args w
noncomputable abbrev TryG.f3 : Func := Try.f3
theorem TryG.fine3 : funcFine Try.prog Try.f3 = true := by kernel_rfl
@[simp] theorem TryG.func3 : TryG.prog.funcs[3]? = some Try.f3 := func_ghost Try.func3 TryG.fine3 (by decide)
@[simp] theorem TryG.call3 (args : Array Value) (w : World) : Sem.run TryG.prog (callFunc 3 args) w = .ok (.enter 3 args) w := call_ghost Try.func3 TryG.fine3 (by decide) args w
noncomputable abbrev TryG.f4 : Func := Try.f4
theorem TryG.fine4 : funcFine Try.prog Try.f4 = true := by kernel_rfl
@[simp] theorem TryG.func4 : TryG.prog.funcs[4]? = some Try.f4 := func_ghost Try.func4 TryG.fine4 (by decide)
@[simp] theorem TryG.call4 (args : Array Value) (w : World) : Sem.run TryG.prog (callFunc 4 args) w = .ok (.enter 4 args) w := call_ghost Try.func4 TryG.fine4 (by decide) args w
noncomputable abbrev TryG.f5 : Func := Try.f5
theorem TryG.fine5 : funcFine Try.prog Try.f5 = true := by kernel_rfl
@[simp] theorem TryG.func5 : TryG.prog.funcs[5]? = some Try.f5 := func_ghost Try.func5 TryG.fine5 (by decide)
@[simp] theorem TryG.call5 (args : Array Value) (w : World) : Sem.run TryG.prog (callFunc 5 args) w = .ok (.enter 5 args) w := call_ghost Try.func5 TryG.fine5 (by decide) args w
noncomputable abbrev TryG.f6 : Func := Try.f6
theorem TryG.fine6 : funcFine Try.prog Try.f6 = true := by kernel_rfl
@[simp] theorem TryG.func6 : TryG.prog.funcs[6]? = some Try.f6 := func_ghost Try.func6 TryG.fine6 (by decide)
@[simp] theorem TryG.call6 (args : Array Value) (w : World) : Sem.run TryG.prog (callFunc 6 args) w = .ok (.enter 6 args) w := call_ghost Try.func6 TryG.fine6 (by decide) args w
noncomputable abbrev TryG.f7 : Func := Try.f7
theorem TryG.fine7 : funcFine Try.prog Try.f7 = true := by kernel_rfl
@[simp] theorem TryG.func7 : TryG.prog.funcs[7]? = some Try.f7 := func_ghost Try.func7 TryG.fine7 (by decide)
@[simp] theorem TryG.call7 (args : Array Value) (w : World) : Sem.run TryG.prog (callFunc 7 args) w = .ok (.enter 7 args) w := call_ghost Try.func7 TryG.fine7 (by decide) args w
noncomputable abbrev TryG.f8 : Func := Try.f8
theorem TryG.fine8 : funcFine Try.prog Try.f8 = true := by kernel_rfl
@[simp] theorem TryG.func8 : TryG.prog.funcs[8]? = some Try.f8 := func_ghost Try.func8 TryG.fine8 (by decide)
@[simp] theorem TryG.call8 (args : Array Value) (w : World) : Sem.run TryG.prog (callFunc 8 args) w = .ok (.enter 8 args) w := call_ghost Try.func8 TryG.fine8 (by decide) args w
noncomputable abbrev TryG.f9 : Func := Try.f9
theorem TryG.fine9 : funcFine Try.prog Try.f9 = true := by kernel_rfl
@[simp] theorem TryG.func9 : TryG.prog.funcs[9]? = some Try.f9 := func_ghost Try.func9 TryG.fine9 (by decide)
@[simp] theorem TryG.call9 (args : Array Value) (w : World) : Sem.run TryG.prog (callFunc 9 args) w = .ok (.enter 9 args) w := call_ghost Try.func9 TryG.fine9 (by decide) args w
noncomputable abbrev TryG.f10 : Func := Try.f10
theorem TryG.fine10 : funcFine Try.prog Try.f10 = true := by kernel_rfl
@[simp] theorem TryG.func10 : TryG.prog.funcs[10]? = some Try.f10 := func_ghost Try.func10 TryG.fine10 (by decide)
@[simp] theorem TryG.call10 (args : Array Value) (w : World) : Sem.run TryG.prog (callFunc 10 args) w = .ok (.enter 10 args) w := call_ghost Try.func10 TryG.fine10 (by decide) args w
noncomputable abbrev TryG.f11 : Func := Try.f11
theorem TryG.fine11 : funcFine Try.prog Try.f11 = true := by kernel_rfl
@[simp] theorem TryG.func11 : TryG.prog.funcs[11]? = some Try.f11 := func_ghost Try.func11 TryG.fine11 (by decide)
@[simp] theorem TryG.call11 (args : Array Value) (w : World) : Sem.run TryG.prog (callFunc 11 args) w = .ok (.enter 11 args) w := call_ghost Try.func11 TryG.fine11 (by decide) args w
noncomputable abbrev TryG.f12 : Func := Try.f12
theorem TryG.fine12 : funcFine Try.prog Try.f12 = true := by kernel_rfl
@[simp] theorem TryG.func12 : TryG.prog.funcs[12]? = some Try.f12 := func_ghost Try.func12 TryG.fine12 (by decide)
@[simp] theorem TryG.call12 (args : Array Value) (w : World) : Sem.run TryG.prog (callFunc 12 args) w = .ok (.enter 12 args) w := call_ghost Try.func12 TryG.fine12 (by decide) args w
noncomputable abbrev TryG.f13 : Func := Try.f13
theorem TryG.fine13 : funcFine Try.prog Try.f13 = true := by kernel_rfl
@[simp] theorem TryG.func13 : TryG.prog.funcs[13]? = some Try.f13 := func_ghost Try.func13 TryG.fine13 (by decide)
@[simp] theorem TryG.call13 (args : Array Value) (w : World) : Sem.run TryG.prog (callFunc 13 args) w = .ok (.enter 13 args) w := call_ghost Try.func13 TryG.fine13 (by decide) args w
noncomputable abbrev TryG.f14 : Func := Try.f14
theorem TryG.fine14 : funcFine Try.prog Try.f14 = true := by kernel_rfl
@[simp] theorem TryG.func14 : TryG.prog.funcs[14]? = some Try.f14 := func_ghost Try.func14 TryG.fine14 (by decide)
@[simp] theorem TryG.call14 (args : Array Value) (w : World) : Sem.run TryG.prog (callFunc 14 args) w = .ok (.enter 14 args) w := call_ghost Try.func14 TryG.fine14 (by decide) args w
noncomputable abbrev TryG.f15 : Func := Try.f15
theorem TryG.fine15 : funcFine Try.prog Try.f15 = true := by kernel_rfl
@[simp] theorem TryG.func15 : TryG.prog.funcs[15]? = some Try.f15 := func_ghost Try.func15 TryG.fine15 (by decide)
@[simp] theorem TryG.call15 (args : Array Value) (w : World) : Sem.run TryG.prog (callFunc 15 args) w = .ok (.enter 15 args) w := call_ghost Try.func15 TryG.fine15 (by decide) args w
noncomputable abbrev TryG.f16 : Func := Try.f16
theorem TryG.fine16 : funcFine Try.prog Try.f16 = true := by kernel_rfl
@[simp] theorem TryG.func16 : TryG.prog.funcs[16]? = some Try.f16 := func_ghost Try.func16 TryG.fine16 (by decide)
@[simp] theorem TryG.call16 (args : Array Value) (w : World) : Sem.run TryG.prog (callFunc 16 args) w = .ok (.enter 16 args) w := call_ghost Try.func16 TryG.fine16 (by decide) args w
noncomputable abbrev TryG.f17 : Func := Try.f17
theorem TryG.fine17 : funcFine Try.prog Try.f17 = true := by kernel_rfl
@[simp] theorem TryG.func17 : TryG.prog.funcs[17]? = some Try.f17 := func_ghost Try.func17 TryG.fine17 (by decide)
@[simp] theorem TryG.call17 (args : Array Value) (w : World) : Sem.run TryG.prog (callFunc 17 args) w = .ok (.enter 17 args) w := call_ghost Try.func17 TryG.fine17 (by decide) args w
noncomputable abbrev TryG.f18 : Func := Try.f18
theorem TryG.fine18 : funcFine Try.prog Try.f18 = true := by kernel_rfl
@[simp] theorem TryG.func18 : TryG.prog.funcs[18]? = some Try.f18 := func_ghost Try.func18 TryG.fine18 (by decide)
@[simp] theorem TryG.call18 (args : Array Value) (w : World) : Sem.run TryG.prog (callFunc 18 args) w = .ok (.enter 18 args) w := call_ghost Try.func18 TryG.fine18 (by decide) args w
noncomputable abbrev TryG.f19 : Func := Try.f19
theorem TryG.fine19 : funcFine Try.prog Try.f19 = true := by kernel_rfl
@[simp] theorem TryG.func19 : TryG.prog.funcs[19]? = some Try.f19 := func_ghost Try.func19 TryG.fine19 (by decide)
@[simp] theorem TryG.call19 (args : Array Value) (w : World) : Sem.run TryG.prog (callFunc 19 args) w = .ok (.enter 19 args) w := call_ghost Try.func19 TryG.fine19 (by decide) args w
noncomputable abbrev TryG.f20 : Func := Try.f20
theorem TryG.fine20 : funcFine Try.prog Try.f20 = true := by kernel_rfl
@[simp] theorem TryG.func20 : TryG.prog.funcs[20]? = some Try.f20 := func_ghost Try.func20 TryG.fine20 (by decide)
@[simp] theorem TryG.call20 (args : Array Value) (w : World) : Sem.run TryG.prog (callFunc 20 args) w = .ok (.enter 20 args) w := call_ghost Try.func20 TryG.fine20 (by decide) args w
noncomputable abbrev TryG.f21 : Func := Try.f21
theorem TryG.fine21 : funcFine Try.prog Try.f21 = true := by kernel_rfl
@[simp] theorem TryG.func21 : TryG.prog.funcs[21]? = some Try.f21 := func_ghost Try.func21 TryG.fine21 (by decide)
@[simp] theorem TryG.call21 (args : Array Value) (w : World) : Sem.run TryG.prog (callFunc 21 args) w = .ok (.enter 21 args) w := call_ghost Try.func21 TryG.fine21 (by decide) args w
noncomputable abbrev TryG.f22 : Func := Try.f22
theorem TryG.fine22 : funcFine Try.prog Try.f22 = true := by kernel_rfl
@[simp] theorem TryG.func22 : TryG.prog.funcs[22]? = some Try.f22 := func_ghost Try.func22 TryG.fine22 (by decide)
@[simp] theorem TryG.call22 (args : Array Value) (w : World) : Sem.run TryG.prog (callFunc 22 args) w = .ok (.enter 22 args) w := call_ghost Try.func22 TryG.fine22 (by decide) args w
noncomputable abbrev TryG.f23 : Func := Try.f23
theorem TryG.fine23 : funcFine Try.prog Try.f23 = true := by kernel_rfl
@[simp] theorem TryG.func23 : TryG.prog.funcs[23]? = some Try.f23 := func_ghost Try.func23 TryG.fine23 (by decide)
@[simp] theorem TryG.call23 (args : Array Value) (w : World) : Sem.run TryG.prog (callFunc 23 args) w = .ok (.enter 23 args) w := call_ghost Try.func23 TryG.fine23 (by decide) args w
noncomputable abbrev TryG.f24 : Func := Try.f24
theorem TryG.fine24 : funcFine Try.prog Try.f24 = true := by kernel_rfl
@[simp] theorem TryG.func24 : TryG.prog.funcs[24]? = some Try.f24 := func_ghost Try.func24 TryG.fine24 (by decide)
@[simp] theorem TryG.call24 (args : Array Value) (w : World) : Sem.run TryG.prog (callFunc 24 args) w = .ok (.enter 24 args) w := call_ghost Try.func24 TryG.fine24 (by decide) args w
noncomputable abbrev TryG.f25 : Func := Try.f25
theorem TryG.fine25 : funcFine Try.prog Try.f25 = true := by kernel_rfl
@[simp] theorem TryG.func25 : TryG.prog.funcs[25]? = some Try.f25 := func_ghost Try.func25 TryG.fine25 (by decide)
@[simp] theorem TryG.call25 (args : Array Value) (w : World) : Sem.run TryG.prog (callFunc 25 args) w = .ok (.enter 25 args) w := call_ghost Try.func25 TryG.fine25 (by decide) args w
noncomputable abbrev TryG.f26 : Func := Try.f26
theorem TryG.fine26 : funcFine Try.prog Try.f26 = true := by kernel_rfl
@[simp] theorem TryG.func26 : TryG.prog.funcs[26]? = some Try.f26 := func_ghost Try.func26 TryG.fine26 (by decide)
@[simp] theorem TryG.call26 (args : Array Value) (w : World) : Sem.run TryG.prog (callFunc 26 args) w = .ok (.enter 26 args) w := call_ghost Try.func26 TryG.fine26 (by decide) args w
noncomputable abbrev TryG.f27 : Func := Try.f27
theorem TryG.fine27 : funcFine Try.prog Try.f27 = true := by kernel_rfl
@[simp] theorem TryG.func27 : TryG.prog.funcs[27]? = some Try.f27 := func_ghost Try.func27 TryG.fine27 (by decide)
@[simp] theorem TryG.call27 (args : Array Value) (w : World) : Sem.run TryG.prog (callFunc 27 args) w = .ok (.enter 27 args) w := call_ghost Try.func27 TryG.fine27 (by decide) args w
noncomputable abbrev TryG.f28 : Func := Try.f28
theorem TryG.fine28 : funcFine Try.prog Try.f28 = true := by kernel_rfl
@[simp] theorem TryG.func28 : TryG.prog.funcs[28]? = some Try.f28 := func_ghost Try.func28 TryG.fine28 (by decide)
@[simp] theorem TryG.call28 (args : Array Value) (w : World) : Sem.run TryG.prog (callFunc 28 args) w = .ok (.enter 28 args) w := call_ghost Try.func28 TryG.fine28 (by decide) args w
noncomputable abbrev TryG.f29 : Func := Try.f29
theorem TryG.fine29 : funcFine Try.prog Try.f29 = true := by kernel_rfl
@[simp] theorem TryG.func29 : TryG.prog.funcs[29]? = some Try.f29 := func_ghost Try.func29 TryG.fine29 (by decide)
@[simp] theorem TryG.call29 (args : Array Value) (w : World) : Sem.run TryG.prog (callFunc 29 args) w = .ok (.enter 29 args) w := call_ghost Try.func29 TryG.fine29 (by decide) args w
noncomputable abbrev TryG.f30 : Func := Try.f30
theorem TryG.fine30 : funcFine Try.prog Try.f30 = true := by kernel_rfl
@[simp] theorem TryG.func30 : TryG.prog.funcs[30]? = some Try.f30 := func_ghost Try.func30 TryG.fine30 (by decide)
@[simp] theorem TryG.call30 (args : Array Value) (w : World) : Sem.run TryG.prog (callFunc 30 args) w = .ok (.enter 30 args) w := call_ghost Try.func30 TryG.fine30 (by decide) args w
noncomputable abbrev TryG.f31 : Func := Try.f31
theorem TryG.fine31 : funcFine Try.prog Try.f31 = true := by kernel_rfl
@[simp] theorem TryG.func31 : TryG.prog.funcs[31]? = some Try.f31 := func_ghost Try.func31 TryG.fine31 (by decide)
@[simp] theorem TryG.call31 (args : Array Value) (w : World) : Sem.run TryG.prog (callFunc 31 args) w = .ok (.enter 31 args) w := call_ghost Try.func31 TryG.fine31 (by decide) args w
noncomputable abbrev TryG.f33 : Func := Try.f33
theorem TryG.fine33 : funcFine Try.prog Try.f33 = true := by kernel_rfl
@[simp] theorem TryG.func33 : TryG.prog.funcs[33]? = some Try.f33 := func_ghost Try.func33 TryG.fine33 (by decide)
@[simp] theorem TryG.call33 (args : Array Value) (w : World) : Sem.run TryG.prog (callFunc 33 args) w = .ok (.enter 33 args) w := call_ghost Try.func33 TryG.fine33 (by decide) args w
noncomputable abbrev TryG.f34 : Func := Try.f34
theorem TryG.fine34 : funcFine Try.prog Try.f34 = true := by kernel_rfl
@[simp] theorem TryG.func34 : TryG.prog.funcs[34]? = some Try.f34 := func_ghost Try.func34 TryG.fine34 (by decide)
@[simp] theorem TryG.call34 (args : Array Value) (w : World) : Sem.run TryG.prog (callFunc 34 args) w = .ok (.enter 34 args) w := call_ghost Try.func34 TryG.fine34 (by decide) args w
noncomputable abbrev TryG.f35 : Func := Try.f35
theorem TryG.fine35 : funcFine Try.prog Try.f35 = true := by kernel_rfl
@[simp] theorem TryG.func35 : TryG.prog.funcs[35]? = some Try.f35 := func_ghost Try.func35 TryG.fine35 (by decide)
@[simp] theorem TryG.call35 (args : Array Value) (w : World) : Sem.run TryG.prog (callFunc 35 args) w = .ok (.enter 35 args) w := call_ghost Try.func35 TryG.fine35 (by decide) args w
noncomputable abbrev TryG.f36 : Func := Try.f36
theorem TryG.fine36 : funcFine Try.prog Try.f36 = true := by kernel_rfl
@[simp] theorem TryG.func36 : TryG.prog.funcs[36]? = some Try.f36 := func_ghost Try.func36 TryG.fine36 (by decide)
@[simp] theorem TryG.call36 (args : Array Value) (w : World) : Sem.run TryG.prog (callFunc 36 args) w = .ok (.enter 36 args) w := call_ghost Try.func36 TryG.fine36 (by decide) args w
noncomputable abbrev TryG.f37 : Func := Try.f37
theorem TryG.fine37 : funcFine Try.prog Try.f37 = true := by kernel_rfl
@[simp] theorem TryG.func37 : TryG.prog.funcs[37]? = some Try.f37 := func_ghost Try.func37 TryG.fine37 (by decide)
@[simp] theorem TryG.call37 (args : Array Value) (w : World) : Sem.run TryG.prog (callFunc 37 args) w = .ok (.enter 37 args) w := call_ghost Try.func37 TryG.fine37 (by decide) args w
noncomputable abbrev TryG.f38 : Func := Try.f38
theorem TryG.fine38 : funcFine Try.prog Try.f38 = true := by kernel_rfl
@[simp] theorem TryG.func38 : TryG.prog.funcs[38]? = some Try.f38 := func_ghost Try.func38 TryG.fine38 (by decide)
@[simp] theorem TryG.call38 (args : Array Value) (w : World) : Sem.run TryG.prog (callFunc 38 args) w = .ok (.enter 38 args) w := call_ghost Try.func38 TryG.fine38 (by decide) args w
noncomputable abbrev TryG.f39 : Func := Try.f39
theorem TryG.fine39 : funcFine Try.prog Try.f39 = true := by kernel_rfl
@[simp] theorem TryG.func39 : TryG.prog.funcs[39]? = some Try.f39 := func_ghost Try.func39 TryG.fine39 (by decide)
@[simp] theorem TryG.call39 (args : Array Value) (w : World) : Sem.run TryG.prog (callFunc 39 args) w = .ok (.enter 39 args) w := call_ghost Try.func39 TryG.fine39 (by decide) args w
noncomputable abbrev TryG.f40 : Func := Try.f40
theorem TryG.fine40 : funcFine Try.prog Try.f40 = true := by kernel_rfl
@[simp] theorem TryG.func40 : TryG.prog.funcs[40]? = some Try.f40 := func_ghost Try.func40 TryG.fine40 (by decide)
@[simp] theorem TryG.call40 (args : Array Value) (w : World) : Sem.run TryG.prog (callFunc 40 args) w = .ok (.enter 40 args) w := call_ghost Try.func40 TryG.fine40 (by decide) args w
noncomputable abbrev TryG.f41 : Func := Try.f41
theorem TryG.fine41 : funcFine Try.prog Try.f41 = true := by kernel_rfl
@[simp] theorem TryG.func41 : TryG.prog.funcs[41]? = some Try.f41 := func_ghost Try.func41 TryG.fine41 (by decide)
@[simp] theorem TryG.call41 (args : Array Value) (w : World) : Sem.run TryG.prog (callFunc 41 args) w = .ok (.enter 41 args) w := call_ghost Try.func41 TryG.fine41 (by decide) args w
noncomputable abbrev TryG.f42 : Func := Try.f42
theorem TryG.fine42 : funcFine Try.prog Try.f42 = true := by kernel_rfl
@[simp] theorem TryG.func42 : TryG.prog.funcs[42]? = some Try.f42 := func_ghost Try.func42 TryG.fine42 (by decide)
@[simp] theorem TryG.call42 (args : Array Value) (w : World) : Sem.run TryG.prog (callFunc 42 args) w = .ok (.enter 42 args) w := call_ghost Try.func42 TryG.fine42 (by decide) args w
noncomputable abbrev TryG.f43 : Func := Try.f43
theorem TryG.fine43 : funcFine Try.prog Try.f43 = true := by kernel_rfl
@[simp] theorem TryG.func43 : TryG.prog.funcs[43]? = some Try.f43 := func_ghost Try.func43 TryG.fine43 (by decide)
@[simp] theorem TryG.call43 (args : Array Value) (w : World) : Sem.run TryG.prog (callFunc 43 args) w = .ok (.enter 43 args) w := call_ghost Try.func43 TryG.fine43 (by decide) args w
noncomputable abbrev TryG.f44 : Func := Try.f44
theorem TryG.fine44 : funcFine Try.prog Try.f44 = true := by kernel_rfl
@[simp] theorem TryG.func44 : TryG.prog.funcs[44]? = some Try.f44 := func_ghost Try.func44 TryG.fine44 (by decide)
@[simp] theorem TryG.call44 (args : Array Value) (w : World) : Sem.run TryG.prog (callFunc 44 args) w = .ok (.enter 44 args) w := call_ghost Try.func44 TryG.fine44 (by decide) args w
noncomputable abbrev TryG.f45 : Func := Try.f45
theorem TryG.fine45 : funcFine Try.prog Try.f45 = true := by kernel_rfl
@[simp] theorem TryG.func45 : TryG.prog.funcs[45]? = some Try.f45 := func_ghost Try.func45 TryG.fine45 (by decide)
@[simp] theorem TryG.call45 (args : Array Value) (w : World) : Sem.run TryG.prog (callFunc 45 args) w = .ok (.enter 45 args) w := call_ghost Try.func45 TryG.fine45 (by decide) args w
noncomputable abbrev TryG.f46 : Func := Try.f46
theorem TryG.fine46 : funcFine Try.prog Try.f46 = true := by kernel_rfl
@[simp] theorem TryG.func46 : TryG.prog.funcs[46]? = some Try.f46 := func_ghost Try.func46 TryG.fine46 (by decide)
@[simp] theorem TryG.call46 (args : Array Value) (w : World) : Sem.run TryG.prog (callFunc 46 args) w = .ok (.enter 46 args) w := call_ghost Try.func46 TryG.fine46 (by decide) args w
noncomputable abbrev TryG.f47 : Func := Try.f47
theorem TryG.fine47 : funcFine Try.prog Try.f47 = true := by kernel_rfl
@[simp] theorem TryG.func47 : TryG.prog.funcs[47]? = some Try.f47 := func_ghost Try.func47 TryG.fine47 (by decide)
@[simp] theorem TryG.call47 (args : Array Value) (w : World) : Sem.run TryG.prog (callFunc 47 args) w = .ok (.enter 47 args) w := call_ghost Try.func47 TryG.fine47 (by decide) args w
noncomputable abbrev TryG.f48 : Func := Try.f48
theorem TryG.fine48 : funcFine Try.prog Try.f48 = true := by kernel_rfl
@[simp] theorem TryG.func48 : TryG.prog.funcs[48]? = some Try.f48 := func_ghost Try.func48 TryG.fine48 (by decide)
@[simp] theorem TryG.call48 (args : Array Value) (w : World) : Sem.run TryG.prog (callFunc 48 args) w = .ok (.enter 48 args) w := call_ghost Try.func48 TryG.fine48 (by decide) args w
noncomputable abbrev TryG.f49 : Func := Try.f49
theorem TryG.fine49 : funcFine Try.prog Try.f49 = true := by kernel_rfl
@[simp] theorem TryG.func49 : TryG.prog.funcs[49]? = some Try.f49 := func_ghost Try.func49 TryG.fine49 (by decide)
@[simp] theorem TryG.call49 (args : Array Value) (w : World) : Sem.run TryG.prog (callFunc 49 args) w = .ok (.enter 49 args) w := call_ghost Try.func49 TryG.fine49 (by decide) args w
noncomputable abbrev TryG.f50 : Func := Try.f50
theorem TryG.fine50 : funcFine Try.prog Try.f50 = true := by kernel_rfl
@[simp] theorem TryG.func50 : TryG.prog.funcs[50]? = some Try.f50 := func_ghost Try.func50 TryG.fine50 (by decide)
@[simp] theorem TryG.call50 (args : Array Value) (w : World) : Sem.run TryG.prog (callFunc 50 args) w = .ok (.enter 50 args) w := call_ghost Try.func50 TryG.fine50 (by decide) args w
noncomputable abbrev TryG.f53 : Func := Try.f53
theorem TryG.fine53 : funcFine Try.prog Try.f53 = true := by kernel_rfl
@[simp] theorem TryG.func53 : TryG.prog.funcs[53]? = some Try.f53 := func_ghost Try.func53 TryG.fine53 (by decide)
@[simp] theorem TryG.call53 (args : Array Value) (w : World) : Sem.run TryG.prog (callFunc 53 args) w = .ok (.enter 53 args) w := call_ghost Try.func53 TryG.fine53 (by decide) args w
noncomputable abbrev TryG.f54 : Func := Try.f54
theorem TryG.fine54 : funcFine Try.prog Try.f54 = true := by kernel_rfl
@[simp] theorem TryG.func54 : TryG.prog.funcs[54]? = some Try.f54 := func_ghost Try.func54 TryG.fine54 (by decide)
@[simp] theorem TryG.call54 (args : Array Value) (w : World) : Sem.run TryG.prog (callFunc 54 args) w = .ok (.enter 54 args) w := call_ghost Try.func54 TryG.fine54 (by decide) args w
noncomputable abbrev TryG.f56 : Func := Try.f56
theorem TryG.fine56 : funcFine Try.prog Try.f56 = true := by kernel_rfl
@[simp] theorem TryG.func56 : TryG.prog.funcs[56]? = some Try.f56 := func_ghost Try.func56 TryG.fine56 (by decide)
@[simp] theorem TryG.call56 (args : Array Value) (w : World) : Sem.run TryG.prog (callFunc 56 args) w = .ok (.enter 56 args) w := call_ghost Try.func56 TryG.fine56 (by decide) args w
noncomputable abbrev TryG.f57 : Func := Try.f57
theorem TryG.fine57 : funcFine Try.prog Try.f57 = true := by kernel_rfl
@[simp] theorem TryG.func57 : TryG.prog.funcs[57]? = some Try.f57 := func_ghost Try.func57 TryG.fine57 (by decide)
@[simp] theorem TryG.call57 (args : Array Value) (w : World) : Sem.run TryG.prog (callFunc 57 args) w = .ok (.enter 57 args) w := call_ghost Try.func57 TryG.fine57 (by decide) args w
noncomputable abbrev TryG.f58 : Func := Try.f58
theorem TryG.fine58 : funcFine Try.prog Try.f58 = true := by kernel_rfl
@[simp] theorem TryG.func58 : TryG.prog.funcs[58]? = some Try.f58 := func_ghost Try.func58 TryG.fine58 (by decide)
@[simp] theorem TryG.call58 (args : Array Value) (w : World) : Sem.run TryG.prog (callFunc 58 args) w = .ok (.enter 58 args) w := call_ghost Try.func58 TryG.fine58 (by decide) args w
noncomputable abbrev TryG.f59 : Func := Try.f59
theorem TryG.fine59 : funcFine Try.prog Try.f59 = true := by kernel_rfl
@[simp] theorem TryG.func59 : TryG.prog.funcs[59]? = some Try.f59 := func_ghost Try.func59 TryG.fine59 (by decide)
@[simp] theorem TryG.call59 (args : Array Value) (w : World) : Sem.run TryG.prog (callFunc 59 args) w = .ok (.enter 59 args) w := call_ghost Try.func59 TryG.fine59 (by decide) args w
noncomputable abbrev TryG.f60 : Func := Try.f60
theorem TryG.fine60 : funcFine Try.prog Try.f60 = true := by kernel_rfl
@[simp] theorem TryG.func60 : TryG.prog.funcs[60]? = some Try.f60 := func_ghost Try.func60 TryG.fine60 (by decide)
@[simp] theorem TryG.call60 (args : Array Value) (w : World) : Sem.run TryG.prog (callFunc 60 args) w = .ok (.enter 60 args) w := call_ghost Try.func60 TryG.fine60 (by decide) args w
noncomputable abbrev TryG.f61 : Func := Try.f61
theorem TryG.fine61 : funcFine Try.prog Try.f61 = true := by kernel_rfl
@[simp] theorem TryG.func61 : TryG.prog.funcs[61]? = some Try.f61 := func_ghost Try.func61 TryG.fine61 (by decide)
@[simp] theorem TryG.call61 (args : Array Value) (w : World) : Sem.run TryG.prog (callFunc 61 args) w = .ok (.enter 61 args) w := call_ghost Try.func61 TryG.fine61 (by decide) args w
noncomputable abbrev TryG.f62 : Func := Try.f62
theorem TryG.fine62 : funcFine Try.prog Try.f62 = true := by kernel_rfl
@[simp] theorem TryG.func62 : TryG.prog.funcs[62]? = some Try.f62 := func_ghost Try.func62 TryG.fine62 (by decide)
@[simp] theorem TryG.call62 (args : Array Value) (w : World) : Sem.run TryG.prog (callFunc 62 args) w = .ok (.enter 62 args) w := call_ghost Try.func62 TryG.fine62 (by decide) args w
noncomputable abbrev TryG.f63 : Func := Try.f63
theorem TryG.fine63 : funcFine Try.prog Try.f63 = true := by kernel_rfl
@[simp] theorem TryG.func63 : TryG.prog.funcs[63]? = some Try.f63 := func_ghost Try.func63 TryG.fine63 (by decide)
@[simp] theorem TryG.call63 (args : Array Value) (w : World) : Sem.run TryG.prog (callFunc 63 args) w = .ok (.enter 63 args) w := call_ghost Try.func63 TryG.fine63 (by decide) args w
noncomputable abbrev TryG.f64 : Func := Try.f64
theorem TryG.fine64 : funcFine Try.prog Try.f64 = true := by kernel_rfl
@[simp] theorem TryG.func64 : TryG.prog.funcs[64]? = some Try.f64 := func_ghost Try.func64 TryG.fine64 (by decide)
@[simp] theorem TryG.call64 (args : Array Value) (w : World) : Sem.run TryG.prog (callFunc 64 args) w = .ok (.enter 64 args) w := call_ghost Try.func64 TryG.fine64 (by decide) args w
noncomputable abbrev TryG.f65 : Func := Try.f65
theorem TryG.fine65 : funcFine Try.prog Try.f65 = true := by kernel_rfl
@[simp] theorem TryG.func65 : TryG.prog.funcs[65]? = some Try.f65 := func_ghost Try.func65 TryG.fine65 (by decide)
@[simp] theorem TryG.call65 (args : Array Value) (w : World) : Sem.run TryG.prog (callFunc 65 args) w = .ok (.enter 65 args) w := call_ghost Try.func65 TryG.fine65 (by decide) args w
noncomputable abbrev TryG.f84 : Func := Try.f84
theorem TryG.fine84 : funcFine Try.prog Try.f84 = true := by kernel_rfl
@[simp] theorem TryG.func84 : TryG.prog.funcs[84]? = some Try.f84 := func_ghost Try.func84 TryG.fine84 (by decide)
@[simp] theorem TryG.call84 (args : Array Value) (w : World) : Sem.run TryG.prog (callFunc 84 args) w = .ok (.enter 84 args) w := call_ghost Try.func84 TryG.fine84 (by decide) args w
noncomputable abbrev TryG.f85 : Func := Try.f85
theorem TryG.fine85 : funcFine Try.prog Try.f85 = true := by kernel_rfl
@[simp] theorem TryG.func85 : TryG.prog.funcs[85]? = some Try.f85 := func_ghost Try.func85 TryG.fine85 (by decide)
@[simp] theorem TryG.call85 (args : Array Value) (w : World) : Sem.run TryG.prog (callFunc 85 args) w = .ok (.enter 85 args) w := call_ghost Try.func85 TryG.fine85 (by decide) args w
noncomputable abbrev TryG.f86 : Func := Try.f86
theorem TryG.fine86 : funcFine Try.prog Try.f86 = true := by kernel_rfl
@[simp] theorem TryG.func86 : TryG.prog.funcs[86]? = some Try.f86 := func_ghost Try.func86 TryG.fine86 (by decide)
@[simp] theorem TryG.call86 (args : Array Value) (w : World) : Sem.run TryG.prog (callFunc 86 args) w = .ok (.enter 86 args) w := call_ghost Try.func86 TryG.fine86 (by decide) args w
noncomputable abbrev TryG.f92 : Func := Try.f92
theorem TryG.fine92 : funcFine Try.prog Try.f92 = true := by kernel_rfl
@[simp] theorem TryG.func92 : TryG.prog.funcs[92]? = some Try.f92 := func_ghost Try.func92 TryG.fine92 (by decide)
@[simp] theorem TryG.call92 (args : Array Value) (w : World) : Sem.run TryG.prog (callFunc 92 args) w = .ok (.enter 92 args) w := call_ghost Try.func92 TryG.fine92 (by decide) args w
noncomputable abbrev TryG.f93 : Func := Try.f93
theorem TryG.fine93 : funcFine Try.prog Try.f93 = true := by kernel_rfl
@[simp] theorem TryG.func93 : TryG.prog.funcs[93]? = some Try.f93 := func_ghost Try.func93 TryG.fine93 (by decide)
@[simp] theorem TryG.call93 (args : Array Value) (w : World) : Sem.run TryG.prog (callFunc 93 args) w = .ok (.enter 93 args) w := call_ghost Try.func93 TryG.fine93 (by decide) args w
noncomputable abbrev TryG.f94 : Func := Try.f94
theorem TryG.fine94 : funcFine Try.prog Try.f94 = true := by kernel_rfl
@[simp] theorem TryG.func94 : TryG.prog.funcs[94]? = some Try.f94 := func_ghost Try.func94 TryG.fine94 (by decide)
@[simp] theorem TryG.call94 (args : Array Value) (w : World) : Sem.run TryG.prog (callFunc 94 args) w = .ok (.enter 94 args) w := call_ghost Try.func94 TryG.fine94 (by decide) args w
noncomputable abbrev TryG.f95 : Func := Try.f95
theorem TryG.fine95 : funcFine Try.prog Try.f95 = true := by kernel_rfl
@[simp] theorem TryG.func95 : TryG.prog.funcs[95]? = some Try.f95 := func_ghost Try.func95 TryG.fine95 (by decide)
@[simp] theorem TryG.call95 (args : Array Value) (w : World) : Sem.run TryG.prog (callFunc 95 args) w = .ok (.enter 95 args) w := call_ghost Try.func95 TryG.fine95 (by decide) args w
noncomputable abbrev TryG.f96 : Func := Try.f96
theorem TryG.fine96 : funcFine Try.prog Try.f96 = true := by kernel_rfl
@[simp] theorem TryG.func96 : TryG.prog.funcs[96]? = some Try.f96 := func_ghost Try.func96 TryG.fine96 (by decide)
@[simp] theorem TryG.call96 (args : Array Value) (w : World) : Sem.run TryG.prog (callFunc 96 args) w = .ok (.enter 96 args) w := call_ghost Try.func96 TryG.fine96 (by decide) args w
noncomputable abbrev TryG.f97 : Func := Try.f97
theorem TryG.fine97 : funcFine Try.prog Try.f97 = true := by kernel_rfl
@[simp] theorem TryG.func97 : TryG.prog.funcs[97]? = some Try.f97 := func_ghost Try.func97 TryG.fine97 (by decide)
@[simp] theorem TryG.call97 (args : Array Value) (w : World) : Sem.run TryG.prog (callFunc 97 args) w = .ok (.enter 97 args) w := call_ghost Try.func97 TryG.fine97 (by decide) args w
noncomputable abbrev TryG.f98 : Func := Try.f98
theorem TryG.fine98 : funcFine Try.prog Try.f98 = true := by kernel_rfl
@[simp] theorem TryG.func98 : TryG.prog.funcs[98]? = some Try.f98 := func_ghost Try.func98 TryG.fine98 (by decide)
@[simp] theorem TryG.call98 (args : Array Value) (w : World) : Sem.run TryG.prog (callFunc 98 args) w = .ok (.enter 98 args) w := call_ghost Try.func98 TryG.fine98 (by decide) args w
noncomputable abbrev TryG.f99 : Func := Try.f99
theorem TryG.fine99 : funcFine Try.prog Try.f99 = true := by kernel_rfl
@[simp] theorem TryG.func99 : TryG.prog.funcs[99]? = some Try.f99 := func_ghost Try.func99 TryG.fine99 (by decide)
@[simp] theorem TryG.call99 (args : Array Value) (w : World) : Sem.run TryG.prog (callFunc 99 args) w = .ok (.enter 99 args) w := call_ghost Try.func99 TryG.fine99 (by decide) args w
noncomputable abbrev TryG.f100 : Func := Try.f100
theorem TryG.fine100 : funcFine Try.prog Try.f100 = true := by kernel_rfl
@[simp] theorem TryG.func100 : TryG.prog.funcs[100]? = some Try.f100 := func_ghost Try.func100 TryG.fine100 (by decide)
@[simp] theorem TryG.call100 (args : Array Value) (w : World) : Sem.run TryG.prog (callFunc 100 args) w = .ok (.enter 100 args) w := call_ghost Try.func100 TryG.fine100 (by decide) args w
noncomputable abbrev TryG.f101 : Func := Try.f101
theorem TryG.fine101 : funcFine Try.prog Try.f101 = true := by kernel_rfl
@[simp] theorem TryG.func101 : TryG.prog.funcs[101]? = some Try.f101 := func_ghost Try.func101 TryG.fine101 (by decide)
@[simp] theorem TryG.call101 (args : Array Value) (w : World) : Sem.run TryG.prog (callFunc 101 args) w = .ok (.enter 101 args) w := call_ghost Try.func101 TryG.fine101 (by decide) args w
noncomputable abbrev TryG.f102 : Func := Try.f102
theorem TryG.fine102 : funcFine Try.prog Try.f102 = true := by kernel_rfl
@[simp] theorem TryG.func102 : TryG.prog.funcs[102]? = some Try.f102 := func_ghost Try.func102 TryG.fine102 (by decide)
@[simp] theorem TryG.call102 (args : Array Value) (w : World) : Sem.run TryG.prog (callFunc 102 args) w = .ok (.enter 102 args) w := call_ghost Try.func102 TryG.fine102 (by decide) args w
noncomputable abbrev TryG.f103 : Func := Try.f103
theorem TryG.fine103 : funcFine Try.prog Try.f103 = true := by kernel_rfl
@[simp] theorem TryG.func103 : TryG.prog.funcs[103]? = some Try.f103 := func_ghost Try.func103 TryG.fine103 (by decide)
@[simp] theorem TryG.call103 (args : Array Value) (w : World) : Sem.run TryG.prog (callFunc 103 args) w = .ok (.enter 103 args) w := call_ghost Try.func103 TryG.fine103 (by decide) args w
noncomputable abbrev TryG.f104 : Func := Try.f104
theorem TryG.fine104 : funcFine Try.prog Try.f104 = true := by kernel_rfl
@[simp] theorem TryG.func104 : TryG.prog.funcs[104]? = some Try.f104 := func_ghost Try.func104 TryG.fine104 (by decide)
@[simp] theorem TryG.call104 (args : Array Value) (w : World) : Sem.run TryG.prog (callFunc 104 args) w = .ok (.enter 104 args) w := call_ghost Try.func104 TryG.fine104 (by decide) args w
noncomputable abbrev TryG.f105 : Func := Try.f105
theorem TryG.fine105 : funcFine Try.prog Try.f105 = true := by kernel_rfl
@[simp] theorem TryG.func105 : TryG.prog.funcs[105]? = some Try.f105 := func_ghost Try.func105 TryG.fine105 (by decide)
@[simp] theorem TryG.call105 (args : Array Value) (w : World) : Sem.run TryG.prog (callFunc 105 args) w = .ok (.enter 105 args) w := call_ghost Try.func105 TryG.fine105 (by decide) args w
noncomputable abbrev TryG.f106 : Func := Try.f106
theorem TryG.fine106 : funcFine Try.prog Try.f106 = true := by kernel_rfl
@[simp] theorem TryG.func106 : TryG.prog.funcs[106]? = some Try.f106 := func_ghost Try.func106 TryG.fine106 (by decide)
@[simp] theorem TryG.call106 (args : Array Value) (w : World) : Sem.run TryG.prog (callFunc 106 args) w = .ok (.enter 106 args) w := call_ghost Try.func106 TryG.fine106 (by decide) args w
noncomputable abbrev TryG.f107 : Func := Try.f107
theorem TryG.fine107 : funcFine Try.prog Try.f107 = true := by kernel_rfl
@[simp] theorem TryG.func107 : TryG.prog.funcs[107]? = some Try.f107 := func_ghost Try.func107 TryG.fine107 (by decide)
@[simp] theorem TryG.call107 (args : Array Value) (w : World) : Sem.run TryG.prog (callFunc 107 args) w = .ok (.enter 107 args) w := call_ghost Try.func107 TryG.fine107 (by decide) args w
noncomputable abbrev TryG.f108 : Func := Try.f108
theorem TryG.fine108 : funcFine Try.prog Try.f108 = true := by kernel_rfl
@[simp] theorem TryG.func108 : TryG.prog.funcs[108]? = some Try.f108 := func_ghost Try.func108 TryG.fine108 (by decide)
@[simp] theorem TryG.call108 (args : Array Value) (w : World) : Sem.run TryG.prog (callFunc 108 args) w = .ok (.enter 108 args) w := call_ghost Try.func108 TryG.fine108 (by decide) args w
noncomputable abbrev TryG.f109 : Func := Try.f109
theorem TryG.fine109 : funcFine Try.prog Try.f109 = true := by kernel_rfl
@[simp] theorem TryG.func109 : TryG.prog.funcs[109]? = some Try.f109 := func_ghost Try.func109 TryG.fine109 (by decide)
@[simp] theorem TryG.call109 (args : Array Value) (w : World) : Sem.run TryG.prog (callFunc 109 args) w = .ok (.enter 109 args) w := call_ghost Try.func109 TryG.fine109 (by decide) args w
noncomputable abbrev TryG.f110 : Func := Try.f110
theorem TryG.fine110 : funcFine Try.prog Try.f110 = true := by kernel_rfl
@[simp] theorem TryG.func110 : TryG.prog.funcs[110]? = some Try.f110 := func_ghost Try.func110 TryG.fine110 (by decide)
@[simp] theorem TryG.call110 (args : Array Value) (w : World) : Sem.run TryG.prog (callFunc 110 args) w = .ok (.enter 110 args) w := call_ghost Try.func110 TryG.fine110 (by decide) args w
noncomputable abbrev TryG.f111 : Func := Try.f111
theorem TryG.fine111 : funcFine Try.prog Try.f111 = true := by kernel_rfl
@[simp] theorem TryG.func111 : TryG.prog.funcs[111]? = some Try.f111 := func_ghost Try.func111 TryG.fine111 (by decide)
@[simp] theorem TryG.call111 (args : Array Value) (w : World) : Sem.run TryG.prog (callFunc 111 args) w = .ok (.enter 111 args) w := call_ghost Try.func111 TryG.fine111 (by decide) args w
noncomputable abbrev TryG.f112 : Func := Try.f112
theorem TryG.fine112 : funcFine Try.prog Try.f112 = true := by kernel_rfl
@[simp] theorem TryG.func112 : TryG.prog.funcs[112]? = some Try.f112 := func_ghost Try.func112 TryG.fine112 (by decide)
@[simp] theorem TryG.call112 (args : Array Value) (w : World) : Sem.run TryG.prog (callFunc 112 args) w = .ok (.enter 112 args) w := call_ghost Try.func112 TryG.fine112 (by decide) args w
end Go.Proofs
