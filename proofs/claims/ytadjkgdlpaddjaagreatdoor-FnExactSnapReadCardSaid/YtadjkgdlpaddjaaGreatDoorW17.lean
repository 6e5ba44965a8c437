/- The program holds the library's lock. -/
import Derived.Test.YtadjkgdlpaddjaaGreatDoorGA
import Derived.Conc.MuLone
namespace Go.Sf
open Go Go.RowKit Go.Proofs Go.Conc.Locks
abbrev muLink : MuLink := { lock := 173, unlock := 174, ilock := 213, iunlock := 214, lockSlow := 241, unlockSlow := 244, disable := 237, enable := 239, acquire := 240, relMerge := 242, cas32 := 238, add32 := 243, tMutex := 106, tIMutex := 104, tPMutex := 274, tPIMutex := 305, tPI32 := 307, tUP := 290, tNoCopy := 101, tU32 := 102 }
theorem muLib : MuLib Tryz.prog muLink := {
  f_lock := Tryz.func173.trans (congrArg some (by kernel_rfl))
  f_unlock := Tryz.func174.trans (congrArg some (by kernel_rfl))
  f_ilock := Tryz.func213.trans (congrArg some (by kernel_rfl))
  f_iunlock := Tryz.func214.trans (congrArg some (by kernel_rfl))
  f_disable := Tryz.func237.trans (congrArg some (by kernel_rfl))
  f_enable := Tryz.func239.trans (congrArg some (by kernel_rfl))
  f_acquire := Tryz.func240.trans (congrArg some (by kernel_rfl))
  f_relMerge := Tryz.func242.trans (congrArg some (by kernel_rfl))
  f_cas32 := Tryz.func238.trans (congrArg some (by kernel_rfl))
  f_add32 := Tryz.func243.trans (congrArg some (by kernel_rfl))
  underlying_tMutex := Tryz.underlying106
  runUnderlying_tMutex := run_underlying Tryz.underlying106
  sizeOf_tMutex := Tryz.sizeOf106
  isAgg_tMutex := Tryz.isAgg106
  zeroValue_tMutex := Tryz.zeroValue106
  underlying_tIMutex := Tryz.underlying104
  runUnderlying_tIMutex := run_underlying Tryz.underlying104
  sizeOf_tIMutex := Tryz.sizeOf104
  isAgg_tIMutex := Tryz.isAgg104
  zeroValue_tIMutex := Tryz.zeroValue104
  underlying_tPMutex := Tryz.underlying274
  runUnderlying_tPMutex := run_underlying Tryz.underlying274
  sizeOf_tPMutex := Tryz.sizeOf274
  isAgg_tPMutex := Tryz.isAgg274
  zeroValue_tPMutex := Tryz.zeroValue274
  underlying_tPIMutex := Tryz.underlying305
  runUnderlying_tPIMutex := run_underlying Tryz.underlying305
  sizeOf_tPIMutex := Tryz.sizeOf305
  isAgg_tPIMutex := Tryz.isAgg305
  zeroValue_tPIMutex := Tryz.zeroValue305
  underlying_tPI32 := Tryz.underlying307
  runUnderlying_tPI32 := run_underlying Tryz.underlying307
  sizeOf_tPI32 := Tryz.sizeOf307
  isAgg_tPI32 := Tryz.isAgg307
  zeroValue_tPI32 := Tryz.zeroValue307
  underlying_tUP := Tryz.underlying290
  runUnderlying_tUP := run_underlying Tryz.underlying290
  sizeOf_tUP := Tryz.sizeOf290
  isAgg_tUP := Tryz.isAgg290
  zeroValue_tUP := Tryz.zeroValue290
  underlying_tNoCopy := Tryz.underlying101
  runUnderlying_tNoCopy := run_underlying Tryz.underlying101
  sizeOf_tNoCopy := Tryz.sizeOf101
  isAgg_tNoCopy := Tryz.isAgg101
  zeroValue_tNoCopy := Tryz.zeroValue101
  underlying_t21 := Tryz.underlying21
  runUnderlying_t21 := run_underlying Tryz.underlying21
  sizeOf_t21 := Tryz.sizeOf21
  isAgg_t21 := Tryz.isAgg21
  zeroValue_t21 := Tryz.zeroValue21
  room_tIMutex := by kernel_rfl }
/-- the lock is taken -/
theorem lock_c (a : Addr) (w : World) (hc : w.cell? a = some (.int .i32 0)) (hz : w.frozen? a = false) :
    Calls Tryz.prog 173 #[.pointer (some a)] w fun e w' => e = .returned (.tuple #[]) ∧ w' = w.setCell a (.int .i32 1) := Go.MuLone.lock_free muLib a w hc hz
/-- .. and let go, by a deferred call -/
theorem unlock_d (a : Addr) (u : FrameMode) (w : World) (hc : w.cell? a = some (.int .i32 1)) (hz : w.frozen? a = false) :
    CallsD Tryz.prog 174 #[.pointer (some a)] u w fun e u' w' => u' = u ∧ (e = .returned (.tuple #[]) ∧ w' = w.setCell a (.int .i32 0)) := Go.MuLone.unlock_deferred muLib a u w hc hz
end Go.Sf
