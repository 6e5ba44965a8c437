/-
  NARROWER THAN 'FOR EVERY INPUT', by the rows' own cells (each row's printed sentence says how): FnVolumeDir: laid · FnDiskUses: laid · FnSnapRead: laid · FnStreamNone: laid · FnStreamGone: laid · FnStreamRead: laid · FnUsedAll: laid · FnUsedParts: laid · FnUsed: laid · FnHistoryTurns: laid · FnHistory: laid · FnHistoryNone: laid.
  DERIVED. THE GIVEN ROWS OF THIS SEAT. 12 by the template 'for every input the law returns true; each argument reads behind the call as it read before'; 0 by the template 'total and deterministic' (their statements: YtdnnojghjnjnfaaGreatDoorTotals.lean).
  GIVEN WITH THE SEED: the statements are not yours to turn. If you find one false, say at which input.
  Laid BY PROGRAM, IN A SANDBOX (cutbox-rows.mjs): the forced cells as the released guide's own fill.sh prints them over the translation c60e8f3ea1d0f9e3… (all of the seat's roots in one cut). By AI agents, Wed Nov 11 2026. No macro, syntax, notation, axiom, sorry.
-/
import Derived.Test.YtdnnojghjnjnfaaGreatDoorChecked
import GoSem.PinnedTables
import GoSem.Claim
import GoSem.ClaimJoined
import GoSem.ClaimMapViews
import Derived.JoinedTies
import Derived.KernelRfl
namespace Go.Proofs.YtdnnojghjnjnfaaGreatDoor
/- THE CELL 'sum', in the pinned program and in every row, IS THE sha256 OF THE DUMP (.gsa) THAT YtdnnojghjnjnfaaGreatDoorProg.lean LOADS. Nothing in Lean hashes anything: it is a label: what it is worth is what the hold of that sum in a sandbox is worth. -/
noncomputable def Tryz.pinned : Pinned := { name := "ytdnnojghjnjnfaagreatdoor", sum := "c60e8f3ea1d0f9e36491ef41f0cff633a4a9f5c7756c806a7ac1e76099a924f1", checked := Tryz.checked }
namespace Rows
def none {H : Type} : Left H := { results := [], args := [] }

/- WHAT THE LISTED PACKAGE-LEVEL VARIABLES READ AS WHEN THE CALL BEGINS. Each datum BY PROGRAM (the guide's laid-datum.mjs) off the statement by which the dump's own 'gosem.cut.vars' lays the variable. In a bare row this is a premise. The card (YtdnnojghjnjnfaaGreatDoorCards.lean) ties it to the program's text. -/
def laid_unicode_utf8_acceptRanges {H : Type} : DataW H := .agg [.agg [.lit (.int .u8 128), .lit (.int .u8 191)], .agg [.lit (.int .u8 160), .lit (.int .u8 191)], .agg [.lit (.int .u8 128), .lit (.int .u8 159)], .agg [.lit (.int .u8 144), .lit (.int .u8 191)], .agg [.lit (.int .u8 128), .lit (.int .u8 143)], .agg [.lit (.int .u8 0), .lit (.int .u8 0)], .agg [.lit (.int .u8 0), .lit (.int .u8 0)], .agg [.lit (.int .u8 0), .lit (.int .u8 0)], .agg [.lit (.int .u8 0), .lit (.int .u8 0)], .agg [.lit (.int .u8 0), .lit (.int .u8 0)], .agg [.lit (.int .u8 0), .lit (.int .u8 0)], .agg [.lit (.int .u8 0), .lit (.int .u8 0)], .agg [.lit (.int .u8 0), .lit (.int .u8 0)], .agg [.lit (.int .u8 0), .lit (.int .u8 0)], .agg [.lit (.int .u8 0), .lit (.int .u8 0)], .agg [.lit (.int .u8 0), .lit (.int .u8 0)]]
/-- One of Go's own tables, pinned by name: the form's constant. -/
def laid_unicode_utf8_first : DataW Unit := Go.Pinned.utf8First

/-- 'laws.FnVolumeDir': WHATEVER THE INPUT: true; the input reads as it did. -/
def fnVolumeDirSpec : ChangeSpec := { name := "fnVolumeDir", fn := fun _ => fun
  | [d] => { results := [.lit (.bool true)], args := [d] }
  | _ => none }
def fnVolumeDirRow : OpenClaim := { program := "ytdnnojghjnjnfaagreatdoor", sum := "c60e8f3ea1d0f9e36491ef41f0cff633a4a9f5c7756c806a7ac1e76099a924f1", func := "loop.example/snapshotfiles/laws.FnVolumeDir", spec := "fnVolumeDir", inPlace := ["internal/bytealg.CountString", "internal/bytealg.IndexByteString", "internal/bytealg.IndexString", "slices.overlaps[*loop.example/snapshotfiles/impl.node]"], unfollowed := true, recurses := true, named := ["unicode/utf8.first", "unicode/utf8.acceptRanges", "internal/bytealg.MaxLen"], apart := false, laid := [("unicode/utf8.acceptRanges", laid_unicode_utf8_acceptRanges), ("unicode/utf8.first", laid_unicode_utf8_first)] }
def FnVolumeDirSaid : Prop := fnVolumeDirRow.holds Tryz.pinned (OpenSpec.ofChange fnVolumeDirSpec)

/-- ITS FALSE NEIGHBOUR: 'it returns false'. Refute it at one input. -/
def fnVolumeDirWrong : ChangeSpec := { name := "fnVolumeDir", fn := fun _ => fun
  | [d] => { results := [.lit (.bool false)], args := [d] }
  | _ => none }
def FnVolumeDirWrongFalsely : Prop := fnVolumeDirRow.holds Tryz.pinned (OpenSpec.ofChange fnVolumeDirWrong)

/-- 'laws.FnDiskUses': WHATEVER THE INPUT: true; the input reads as it did. -/
def fnDiskUsesSpec : ChangeSpec := { name := "fnDiskUses", fn := fun _ => fun
  | [d] => { results := [.lit (.bool true)], args := [d] }
  | _ => none }
def fnDiskUsesRow : OpenClaim := { program := "ytdnnojghjnjnfaagreatdoor", sum := "c60e8f3ea1d0f9e36491ef41f0cff633a4a9f5c7756c806a7ac1e76099a924f1", func := "loop.example/snapshotfiles/laws.FnDiskUses", spec := "fnDiskUses", inPlace := ["internal/bytealg.CountString", "internal/bytealg.IndexByteString", "internal/bytealg.IndexString", "slices.overlaps[*loop.example/snapshotfiles/impl.node]"], unfollowed := true, recurses := true, named := ["unicode/utf8.first", "unicode/utf8.acceptRanges", "internal/bytealg.MaxLen"], apart := false, laid := [("unicode/utf8.acceptRanges", laid_unicode_utf8_acceptRanges), ("unicode/utf8.first", laid_unicode_utf8_first)] }
def FnDiskUsesSaid : Prop := fnDiskUsesRow.holds Tryz.pinned (OpenSpec.ofChange fnDiskUsesSpec)

/-- ITS FALSE NEIGHBOUR: 'it returns false'. Refute it at one input. -/
def fnDiskUsesWrong : ChangeSpec := { name := "fnDiskUses", fn := fun _ => fun
  | [d] => { results := [.lit (.bool false)], args := [d] }
  | _ => none }
def FnDiskUsesWrongFalsely : Prop := fnDiskUsesRow.holds Tryz.pinned (OpenSpec.ofChange fnDiskUsesWrong)

/-- 'laws.FnSnapRead': WHATEVER THE INPUT: true; the input reads as it did. -/
def fnSnapReadSpec : ChangeSpec := { name := "fnSnapRead", fn := fun _ => fun
  | [d] => { results := [.lit (.bool true)], args := [d] }
  | _ => none }
def fnSnapReadRow : OpenClaim := { program := "ytdnnojghjnjnfaagreatdoor", sum := "c60e8f3ea1d0f9e36491ef41f0cff633a4a9f5c7756c806a7ac1e76099a924f1", func := "loop.example/snapshotfiles/laws.FnSnapRead", spec := "fnSnapRead", inPlace := ["internal/bytealg.CountString", "internal/bytealg.IndexByteString", "internal/bytealg.IndexString", "slices.overlaps[*loop.example/snapshotfiles/impl.node]", "(*internal/sync.Mutex).Lock", "internal/race.Disable", "sync/atomic.CompareAndSwapInt32", "internal/race.Enable", "internal/race.Acquire", "(*internal/sync.Mutex).lockSlow", "internal/sync.runtime_canSpin", "internal/sync.runtime_doSpin", "internal/sync.throw", "internal/sync.runtime_nanotime", "internal/sync.runtime_SemacquireMutex", "sync/atomic.AddInt32", "(*internal/sync.Mutex).Unlock", "internal/race.ReleaseMerge", "(*internal/sync.Mutex).unlockSlow", "internal/sync.fatal", "internal/sync.runtime_Semrelease"], unfollowed := true, recurses := true, named := ["unicode/utf8.first", "unicode/utf8.acceptRanges", "internal/bytealg.MaxLen"], apart := false, laid := [("unicode/utf8.acceptRanges", laid_unicode_utf8_acceptRanges), ("unicode/utf8.first", laid_unicode_utf8_first)] }
def FnSnapReadSaid : Prop := fnSnapReadRow.holds Tryz.pinned (OpenSpec.ofChange fnSnapReadSpec)

/-- ITS FALSE NEIGHBOUR: 'it returns false'. Refute it at one input. -/
def fnSnapReadWrong : ChangeSpec := { name := "fnSnapRead", fn := fun _ => fun
  | [d] => { results := [.lit (.bool false)], args := [d] }
  | _ => none }
def FnSnapReadWrongFalsely : Prop := fnSnapReadRow.holds Tryz.pinned (OpenSpec.ofChange fnSnapReadWrong)

/-- 'laws.FnStreamNone': WHATEVER THE INPUT: true; the input reads as it did. -/
def fnStreamNoneSpec : ChangeSpec := { name := "fnStreamNone", fn := fun _ => fun
  | [d] => { results := [.lit (.bool true)], args := [d] }
  | _ => none }
def fnStreamNoneRow : OpenClaim := { program := "ytdnnojghjnjnfaagreatdoor", sum := "c60e8f3ea1d0f9e36491ef41f0cff633a4a9f5c7756c806a7ac1e76099a924f1", func := "loop.example/snapshotfiles/laws.FnStreamNone", spec := "fnStreamNone", inPlace := ["internal/bytealg.CountString", "internal/bytealg.IndexByteString", "internal/bytealg.IndexString", "slices.overlaps[*loop.example/snapshotfiles/impl.node]"], unfollowed := true, recurses := true, named := ["unicode/utf8.first", "unicode/utf8.acceptRanges", "internal/bytealg.MaxLen"], apart := false, laid := [("unicode/utf8.acceptRanges", laid_unicode_utf8_acceptRanges), ("unicode/utf8.first", laid_unicode_utf8_first)] }
def FnStreamNoneSaid : Prop := fnStreamNoneRow.holds Tryz.pinned (OpenSpec.ofChange fnStreamNoneSpec)

/-- ITS FALSE NEIGHBOUR: 'it returns false'. Refute it at one input. -/
def fnStreamNoneWrong : ChangeSpec := { name := "fnStreamNone", fn := fun _ => fun
  | [d] => { results := [.lit (.bool false)], args := [d] }
  | _ => none }
def FnStreamNoneWrongFalsely : Prop := fnStreamNoneRow.holds Tryz.pinned (OpenSpec.ofChange fnStreamNoneWrong)

/-- 'laws.FnStreamGone': WHATEVER THE INPUT: true; the input reads as it did. -/
def fnStreamGoneSpec : ChangeSpec := { name := "fnStreamGone", fn := fun _ => fun
  | [d] => { results := [.lit (.bool true)], args := [d] }
  | _ => none }
def fnStreamGoneRow : OpenClaim := { program := "ytdnnojghjnjnfaagreatdoor", sum := "c60e8f3ea1d0f9e36491ef41f0cff633a4a9f5c7756c806a7ac1e76099a924f1", func := "loop.example/snapshotfiles/laws.FnStreamGone", spec := "fnStreamGone", inPlace := ["internal/bytealg.CountString", "internal/bytealg.IndexByteString", "internal/bytealg.IndexString", "slices.overlaps[*loop.example/snapshotfiles/impl.node]"], unfollowed := true, recurses := true, named := ["unicode/utf8.first", "unicode/utf8.acceptRanges", "internal/bytealg.MaxLen"], apart := false, laid := [("unicode/utf8.acceptRanges", laid_unicode_utf8_acceptRanges), ("unicode/utf8.first", laid_unicode_utf8_first)] }
def FnStreamGoneSaid : Prop := fnStreamGoneRow.holds Tryz.pinned (OpenSpec.ofChange fnStreamGoneSpec)

/-- ITS FALSE NEIGHBOUR: 'it returns false'. Refute it at one input. -/
def fnStreamGoneWrong : ChangeSpec := { name := "fnStreamGone", fn := fun _ => fun
  | [d] => { results := [.lit (.bool false)], args := [d] }
  | _ => none }
def FnStreamGoneWrongFalsely : Prop := fnStreamGoneRow.holds Tryz.pinned (OpenSpec.ofChange fnStreamGoneWrong)

/-- 'laws.FnStreamRead': WHATEVER THE INPUT: true; the input reads as it did. -/
def fnStreamReadSpec : ChangeSpec := { name := "fnStreamRead", fn := fun _ => fun
  | [d] => { results := [.lit (.bool true)], args := [d] }
  | _ => none }
def fnStreamReadRow : OpenClaim := { program := "ytdnnojghjnjnfaagreatdoor", sum := "c60e8f3ea1d0f9e36491ef41f0cff633a4a9f5c7756c806a7ac1e76099a924f1", func := "loop.example/snapshotfiles/laws.FnStreamRead", spec := "fnStreamRead", inPlace := ["internal/bytealg.CountString", "internal/bytealg.IndexByteString", "internal/bytealg.IndexString", "slices.overlaps[*loop.example/snapshotfiles/impl.node]", "(*internal/sync.Mutex).Lock", "internal/race.Disable", "sync/atomic.CompareAndSwapInt32", "internal/race.Enable", "internal/race.Acquire", "(*internal/sync.Mutex).lockSlow", "internal/sync.runtime_canSpin", "internal/sync.runtime_doSpin", "internal/sync.throw", "internal/sync.runtime_nanotime", "internal/sync.runtime_SemacquireMutex", "sync/atomic.AddInt32", "(*internal/sync.Mutex).Unlock", "internal/race.ReleaseMerge", "(*internal/sync.Mutex).unlockSlow", "internal/sync.fatal", "internal/sync.runtime_Semrelease"], unfollowed := true, recurses := true, named := ["unicode/utf8.first", "unicode/utf8.acceptRanges", "internal/bytealg.MaxLen"], apart := false, laid := [("unicode/utf8.acceptRanges", laid_unicode_utf8_acceptRanges), ("unicode/utf8.first", laid_unicode_utf8_first)] }
def FnStreamReadSaid : Prop := fnStreamReadRow.holds Tryz.pinned (OpenSpec.ofChange fnStreamReadSpec)

/-- ITS FALSE NEIGHBOUR: 'it returns false'. Refute it at one input. -/
def fnStreamReadWrong : ChangeSpec := { name := "fnStreamRead", fn := fun _ => fun
  | [d] => { results := [.lit (.bool false)], args := [d] }
  | _ => none }
def FnStreamReadWrongFalsely : Prop := fnStreamReadRow.holds Tryz.pinned (OpenSpec.ofChange fnStreamReadWrong)

/-- 'laws.FnUsedAll': WHATEVER THE INPUT: true; the input reads as it did. -/
def fnUsedAllSpec : ChangeSpec := { name := "fnUsedAll", fn := fun _ => fun
  | [d] => { results := [.lit (.bool true)], args := [d] }
  | _ => none }
def fnUsedAllRow : OpenClaim := { program := "ytdnnojghjnjnfaagreatdoor", sum := "c60e8f3ea1d0f9e36491ef41f0cff633a4a9f5c7756c806a7ac1e76099a924f1", func := "loop.example/snapshotfiles/laws.FnUsedAll", spec := "fnUsedAll", inPlace := ["internal/bytealg.CountString", "internal/bytealg.IndexByteString", "internal/bytealg.IndexString", "slices.overlaps[*loop.example/snapshotfiles/impl.node]"], unfollowed := true, recurses := true, named := ["unicode/utf8.first", "unicode/utf8.acceptRanges", "internal/bytealg.MaxLen"], apart := false, laid := [("unicode/utf8.acceptRanges", laid_unicode_utf8_acceptRanges), ("unicode/utf8.first", laid_unicode_utf8_first)] }
def FnUsedAllSaid : Prop := fnUsedAllRow.holds Tryz.pinned (OpenSpec.ofChange fnUsedAllSpec)

/-- ITS FALSE NEIGHBOUR: 'it returns false'. Refute it at one input. -/
def fnUsedAllWrong : ChangeSpec := { name := "fnUsedAll", fn := fun _ => fun
  | [d] => { results := [.lit (.bool false)], args := [d] }
  | _ => none }
def FnUsedAllWrongFalsely : Prop := fnUsedAllRow.holds Tryz.pinned (OpenSpec.ofChange fnUsedAllWrong)

/-- 'laws.FnUsedParts': WHATEVER THE INPUT: true; the input reads as it did. -/
def fnUsedPartsSpec : ChangeSpec := { name := "fnUsedParts", fn := fun _ => fun
  | [d] => { results := [.lit (.bool true)], args := [d] }
  | _ => none }
def fnUsedPartsRow : OpenClaim := { program := "ytdnnojghjnjnfaagreatdoor", sum := "c60e8f3ea1d0f9e36491ef41f0cff633a4a9f5c7756c806a7ac1e76099a924f1", func := "loop.example/snapshotfiles/laws.FnUsedParts", spec := "fnUsedParts", inPlace := ["internal/bytealg.CountString", "internal/bytealg.IndexByteString", "internal/bytealg.IndexString", "slices.overlaps[*loop.example/snapshotfiles/impl.node]"], unfollowed := true, recurses := true, named := ["unicode/utf8.first", "unicode/utf8.acceptRanges", "internal/bytealg.MaxLen"], apart := false, laid := [("unicode/utf8.acceptRanges", laid_unicode_utf8_acceptRanges), ("unicode/utf8.first", laid_unicode_utf8_first)] }
def FnUsedPartsSaid : Prop := fnUsedPartsRow.holds Tryz.pinned (OpenSpec.ofChange fnUsedPartsSpec)

/-- ITS FALSE NEIGHBOUR: 'it returns false'. Refute it at one input. -/
def fnUsedPartsWrong : ChangeSpec := { name := "fnUsedParts", fn := fun _ => fun
  | [d] => { results := [.lit (.bool false)], args := [d] }
  | _ => none }
def FnUsedPartsWrongFalsely : Prop := fnUsedPartsRow.holds Tryz.pinned (OpenSpec.ofChange fnUsedPartsWrong)

/-- 'laws.FnUsed': WHATEVER THE INPUT: true; the input reads as it did. -/
def fnUsedSpec : ChangeSpec := { name := "fnUsed", fn := fun _ => fun
  | [d] => { results := [.lit (.bool true)], args := [d] }
  | _ => none }
def fnUsedRow : OpenClaim := { program := "ytdnnojghjnjnfaagreatdoor", sum := "c60e8f3ea1d0f9e36491ef41f0cff633a4a9f5c7756c806a7ac1e76099a924f1", func := "loop.example/snapshotfiles/laws.FnUsed", spec := "fnUsed", inPlace := ["internal/bytealg.CountString", "internal/bytealg.IndexByteString", "internal/bytealg.IndexString", "slices.overlaps[*loop.example/snapshotfiles/impl.node]"], unfollowed := true, recurses := true, named := ["unicode/utf8.first", "unicode/utf8.acceptRanges", "internal/bytealg.MaxLen"], apart := false, laid := [("unicode/utf8.acceptRanges", laid_unicode_utf8_acceptRanges), ("unicode/utf8.first", laid_unicode_utf8_first)] }
def FnUsedSaid : Prop := fnUsedRow.holds Tryz.pinned (OpenSpec.ofChange fnUsedSpec)

/-- ITS FALSE NEIGHBOUR: 'it returns false'. Refute it at one input. -/
def fnUsedWrong : ChangeSpec := { name := "fnUsed", fn := fun _ => fun
  | [d] => { results := [.lit (.bool false)], args := [d] }
  | _ => none }
def FnUsedWrongFalsely : Prop := fnUsedRow.holds Tryz.pinned (OpenSpec.ofChange fnUsedWrong)

/-- 'laws.FnHistoryTurns': WHATEVER THE INPUT: true; the input reads as it did. -/
def fnHistoryTurnsSpec : ChangeSpec := { name := "fnHistoryTurns", fn := fun _ => fun
  | [d] => { results := [.lit (.bool true)], args := [d] }
  | _ => none }
def fnHistoryTurnsRow : OpenClaim := { program := "ytdnnojghjnjnfaagreatdoor", sum := "c60e8f3ea1d0f9e36491ef41f0cff633a4a9f5c7756c806a7ac1e76099a924f1", func := "loop.example/snapshotfiles/laws.FnHistoryTurns", spec := "fnHistoryTurns", inPlace := ["internal/bytealg.CountString", "internal/bytealg.IndexByteString", "internal/bytealg.IndexString", "slices.overlaps[*loop.example/snapshotfiles/impl.node]"], unfollowed := true, recurses := true, named := ["unicode/utf8.first", "unicode/utf8.acceptRanges", "internal/bytealg.MaxLen"], apart := false, laid := [("unicode/utf8.acceptRanges", laid_unicode_utf8_acceptRanges), ("unicode/utf8.first", laid_unicode_utf8_first)] }
def FnHistoryTurnsSaid : Prop := fnHistoryTurnsRow.holds Tryz.pinned (OpenSpec.ofChange fnHistoryTurnsSpec)

/-- ITS FALSE NEIGHBOUR: 'it returns false'. Refute it at one input. -/
def fnHistoryTurnsWrong : ChangeSpec := { name := "fnHistoryTurns", fn := fun _ => fun
  | [d] => { results := [.lit (.bool false)], args := [d] }
  | _ => none }
def FnHistoryTurnsWrongFalsely : Prop := fnHistoryTurnsRow.holds Tryz.pinned (OpenSpec.ofChange fnHistoryTurnsWrong)

/-- 'laws.FnHistory': WHATEVER THE INPUT: true; the input reads as it did. -/
def fnHistorySpec : ChangeSpec := { name := "fnHistory", fn := fun _ => fun
  | [d] => { results := [.lit (.bool true)], args := [d] }
  | _ => none }
def fnHistoryRow : OpenClaim := { program := "ytdnnojghjnjnfaagreatdoor", sum := "c60e8f3ea1d0f9e36491ef41f0cff633a4a9f5c7756c806a7ac1e76099a924f1", func := "loop.example/snapshotfiles/laws.FnHistory", spec := "fnHistory", inPlace := ["internal/bytealg.CountString", "internal/bytealg.IndexByteString", "internal/bytealg.IndexString", "slices.overlaps[*loop.example/snapshotfiles/impl.node]"], unfollowed := true, recurses := true, named := ["unicode/utf8.first", "unicode/utf8.acceptRanges", "internal/bytealg.MaxLen"], apart := false, laid := [("unicode/utf8.acceptRanges", laid_unicode_utf8_acceptRanges), ("unicode/utf8.first", laid_unicode_utf8_first)] }
def FnHistorySaid : Prop := fnHistoryRow.holds Tryz.pinned (OpenSpec.ofChange fnHistorySpec)

/-- ITS FALSE NEIGHBOUR: 'it returns false'. Refute it at one input. -/
def fnHistoryWrong : ChangeSpec := { name := "fnHistory", fn := fun _ => fun
  | [d] => { results := [.lit (.bool false)], args := [d] }
  | _ => none }
def FnHistoryWrongFalsely : Prop := fnHistoryRow.holds Tryz.pinned (OpenSpec.ofChange fnHistoryWrong)

/-- 'laws.FnHistoryNone': WHATEVER THE INPUT: true; the input reads as it did. -/
def fnHistoryNoneSpec : ChangeSpec := { name := "fnHistoryNone", fn := fun _ => fun
  | [d] => { results := [.lit (.bool true)], args := [d] }
  | _ => none }
def fnHistoryNoneRow : OpenClaim := { program := "ytdnnojghjnjnfaagreatdoor", sum := "c60e8f3ea1d0f9e36491ef41f0cff633a4a9f5c7756c806a7ac1e76099a924f1", func := "loop.example/snapshotfiles/laws.FnHistoryNone", spec := "fnHistoryNone", inPlace := ["internal/bytealg.CountString", "internal/bytealg.IndexByteString", "internal/bytealg.IndexString", "slices.overlaps[*loop.example/snapshotfiles/impl.node]"], unfollowed := true, recurses := true, named := ["unicode/utf8.first", "unicode/utf8.acceptRanges", "internal/bytealg.MaxLen"], apart := false, laid := [("unicode/utf8.acceptRanges", laid_unicode_utf8_acceptRanges), ("unicode/utf8.first", laid_unicode_utf8_first)] }
def FnHistoryNoneSaid : Prop := fnHistoryNoneRow.holds Tryz.pinned (OpenSpec.ofChange fnHistoryNoneSpec)

/-- ITS FALSE NEIGHBOUR: 'it returns false'. Refute it at one input. -/
def fnHistoryNoneWrong : ChangeSpec := { name := "fnHistoryNone", fn := fun _ => fun
  | [d] => { results := [.lit (.bool false)], args := [d] }
  | _ => none }
def FnHistoryNoneWrongFalsely : Prop := fnHistoryNoneRow.holds Tryz.pinned (OpenSpec.ofChange fnHistoryNoneWrong)

/- THE SECOND FORM. 'bulk': how many values and letters a reading holds, each counted each time it is reached (what is shared counts as often as it is met; a slice's spare places count too). A statement '..UptoSaid' is the law's where the arguments, and the package variables that the reading takes, are together of bulk at most 1048576: NARROWER than '..Said'. Prove '..Said' where nothing that the law and all that it calls make is longer than what came in: it says more and counts as full. Else prove '..UptoSaid'. A law counts once. -/
mutual
def uptoBulk {H : Type} : DataW H → Nat
  | .lit (.string bytes) => bytes.length + 1
  | .lit _ => 1
  | .nil => 1
  | .ptr d => uptoBulk d + 1
  | .slice elems spare => uptoBulkAll elems + uptoBulkAll spare + 1
  | .agg parts => uptoBulkAll parts + 1
  | .iface _ d => uptoBulk d + 1
  | .map entries => uptoBulkEntries entries + 1
  | .held _ => 1
def uptoBulkAll {H : Type} : List (DataW H) → Nat
  | [] => 0
  | d :: r => uptoBulk d + uptoBulkAll r
def uptoBulkEntries {H : Type} : List (Lit × DataW H) → Nat
  | [] => 0
  | x :: r => uptoBulkEntry x + uptoBulkEntries r
def uptoBulkEntry {H : Type} : Lit × DataW H → Nat
  | (.string bytes, d) => bytes.length + uptoBulk d + 1
  | (_, d) => uptoBulk d + 1
 end
def uptoSmall : (H : Type) → List (DataW H) → Bool := fun _ ds => decide (uptoBulkAll ds ≤ 1048576)
def OpenSpec.upto (s : _root_.Go.ChangeSpec) : _root_.Go.OpenSpec := { _root_.Go.OpenSpec.ofChange s with cond := some uptoSmall }

/-- 'laws.FnVolumeDir', WHERE WHAT IT READS IS OF BULK AT MOST 1048576: true; the input reads as it did. -/
def fnVolumeDirUptoRow : OpenClaim := { program := "ytdnnojghjnjnfaagreatdoor", sum := "c60e8f3ea1d0f9e36491ef41f0cff633a4a9f5c7756c806a7ac1e76099a924f1", func := "loop.example/snapshotfiles/laws.FnVolumeDir", spec := "fnVolumeDir", inPlace := ["internal/bytealg.CountString", "internal/bytealg.IndexByteString", "internal/bytealg.IndexString", "slices.overlaps[*loop.example/snapshotfiles/impl.node]"], unfollowed := true, recurses := true, named := ["unicode/utf8.first", "unicode/utf8.acceptRanges", "internal/bytealg.MaxLen"], apart := false, laid := [("unicode/utf8.acceptRanges", laid_unicode_utf8_acceptRanges), ("unicode/utf8.first", laid_unicode_utf8_first)], narrowed := true }
def FnVolumeDirUptoSaid : Prop := fnVolumeDirUptoRow.holds Tryz.pinned (OpenSpec.upto fnVolumeDirSpec)

/-- 'laws.FnDiskUses', WHERE WHAT IT READS IS OF BULK AT MOST 1048576: true; the input reads as it did. -/
def fnDiskUsesUptoRow : OpenClaim := { program := "ytdnnojghjnjnfaagreatdoor", sum := "c60e8f3ea1d0f9e36491ef41f0cff633a4a9f5c7756c806a7ac1e76099a924f1", func := "loop.example/snapshotfiles/laws.FnDiskUses", spec := "fnDiskUses", inPlace := ["internal/bytealg.CountString", "internal/bytealg.IndexByteString", "internal/bytealg.IndexString", "slices.overlaps[*loop.example/snapshotfiles/impl.node]"], unfollowed := true, recurses := true, named := ["unicode/utf8.first", "unicode/utf8.acceptRanges", "internal/bytealg.MaxLen"], apart := false, laid := [("unicode/utf8.acceptRanges", laid_unicode_utf8_acceptRanges), ("unicode/utf8.first", laid_unicode_utf8_first)], narrowed := true }
def FnDiskUsesUptoSaid : Prop := fnDiskUsesUptoRow.holds Tryz.pinned (OpenSpec.upto fnDiskUsesSpec)

/-- 'laws.FnSnapRead', WHERE WHAT IT READS IS OF BULK AT MOST 1048576: true; the input reads as it did. -/
def fnSnapReadUptoRow : OpenClaim := { program := "ytdnnojghjnjnfaagreatdoor", sum := "c60e8f3ea1d0f9e36491ef41f0cff633a4a9f5c7756c806a7ac1e76099a924f1", func := "loop.example/snapshotfiles/laws.FnSnapRead", spec := "fnSnapRead", inPlace := ["internal/bytealg.CountString", "internal/bytealg.IndexByteString", "internal/bytealg.IndexString", "slices.overlaps[*loop.example/snapshotfiles/impl.node]", "(*internal/sync.Mutex).Lock", "internal/race.Disable", "sync/atomic.CompareAndSwapInt32", "internal/race.Enable", "internal/race.Acquire", "(*internal/sync.Mutex).lockSlow", "internal/sync.runtime_canSpin", "internal/sync.runtime_doSpin", "internal/sync.throw", "internal/sync.runtime_nanotime", "internal/sync.runtime_SemacquireMutex", "sync/atomic.AddInt32", "(*internal/sync.Mutex).Unlock", "internal/race.ReleaseMerge", "(*internal/sync.Mutex).unlockSlow", "internal/sync.fatal", "internal/sync.runtime_Semrelease"], unfollowed := true, recurses := true, named := ["unicode/utf8.first", "unicode/utf8.acceptRanges", "internal/bytealg.MaxLen"], apart := false, laid := [("unicode/utf8.acceptRanges", laid_unicode_utf8_acceptRanges), ("unicode/utf8.first", laid_unicode_utf8_first)], narrowed := true }
def FnSnapReadUptoSaid : Prop := fnSnapReadUptoRow.holds Tryz.pinned (OpenSpec.upto fnSnapReadSpec)

/-- 'laws.FnStreamNone', WHERE WHAT IT READS IS OF BULK AT MOST 1048576: true; the input reads as it did. -/
def fnStreamNoneUptoRow : OpenClaim := { program := "ytdnnojghjnjnfaagreatdoor", sum := "c60e8f3ea1d0f9e36491ef41f0cff633a4a9f5c7756c806a7ac1e76099a924f1", func := "loop.example/snapshotfiles/laws.FnStreamNone", spec := "fnStreamNone", inPlace := ["internal/bytealg.CountString", "internal/bytealg.IndexByteString", "internal/bytealg.IndexString", "slices.overlaps[*loop.example/snapshotfiles/impl.node]"], unfollowed := true, recurses := true, named := ["unicode/utf8.first", "unicode/utf8.acceptRanges", "internal/bytealg.MaxLen"], apart := false, laid := [("unicode/utf8.acceptRanges", laid_unicode_utf8_acceptRanges), ("unicode/utf8.first", laid_unicode_utf8_first)], narrowed := true }
def FnStreamNoneUptoSaid : Prop := fnStreamNoneUptoRow.holds Tryz.pinned (OpenSpec.upto fnStreamNoneSpec)

/-- 'laws.FnStreamGone', WHERE WHAT IT READS IS OF BULK AT MOST 1048576: true; the input reads as it did. -/
def fnStreamGoneUptoRow : OpenClaim := { program := "ytdnnojghjnjnfaagreatdoor", sum := "c60e8f3ea1d0f9e36491ef41f0cff633a4a9f5c7756c806a7ac1e76099a924f1", func := "loop.example/snapshotfiles/laws.FnStreamGone", spec := "fnStreamGone", inPlace := ["internal/bytealg.CountString", "internal/bytealg.IndexByteString", "internal/bytealg.IndexString", "slices.overlaps[*loop.example/snapshotfiles/impl.node]"], unfollowed := true, recurses := true, named := ["unicode/utf8.first", "unicode/utf8.acceptRanges", "internal/bytealg.MaxLen"], apart := false, laid := [("unicode/utf8.acceptRanges", laid_unicode_utf8_acceptRanges), ("unicode/utf8.first", laid_unicode_utf8_first)], narrowed := true }
def FnStreamGoneUptoSaid : Prop := fnStreamGoneUptoRow.holds Tryz.pinned (OpenSpec.upto fnStreamGoneSpec)

/-- 'laws.FnStreamRead', WHERE WHAT IT READS IS OF BULK AT MOST 1048576: true; the input reads as it did. -/
def fnStreamReadUptoRow : OpenClaim := { program := "ytdnnojghjnjnfaagreatdoor", sum := "c60e8f3ea1d0f9e36491ef41f0cff633a4a9f5c7756c806a7ac1e76099a924f1", func := "loop.example/snapshotfiles/laws.FnStreamRead", spec := "fnStreamRead", inPlace := ["internal/bytealg.CountString", "internal/bytealg.IndexByteString", "internal/bytealg.IndexString", "slices.overlaps[*loop.example/snapshotfiles/impl.node]", "(*internal/sync.Mutex).Lock", "internal/race.Disable", "sync/atomic.CompareAndSwapInt32", "internal/race.Enable", "internal/race.Acquire", "(*internal/sync.Mutex).lockSlow", "internal/sync.runtime_canSpin", "internal/sync.runtime_doSpin", "internal/sync.throw", "internal/sync.runtime_nanotime", "internal/sync.runtime_SemacquireMutex", "sync/atomic.AddInt32", "(*internal/sync.Mutex).Unlock", "internal/race.ReleaseMerge", "(*internal/sync.Mutex).unlockSlow", "internal/sync.fatal", "internal/sync.runtime_Semrelease"], unfollowed := true, recurses := true, named := ["unicode/utf8.first", "unicode/utf8.acceptRanges", "internal/bytealg.MaxLen"], apart := false, laid := [("unicode/utf8.acceptRanges", laid_unicode_utf8_acceptRanges), ("unicode/utf8.first", laid_unicode_utf8_first)], narrowed := true }
def FnStreamReadUptoSaid : Prop := fnStreamReadUptoRow.holds Tryz.pinned (OpenSpec.upto fnStreamReadSpec)

/-- 'laws.FnUsedAll', WHERE WHAT IT READS IS OF BULK AT MOST 1048576: true; the input reads as it did. -/
def fnUsedAllUptoRow : OpenClaim := { program := "ytdnnojghjnjnfaagreatdoor", sum := "c60e8f3ea1d0f9e36491ef41f0cff633a4a9f5c7756c806a7ac1e76099a924f1", func := "loop.example/snapshotfiles/laws.FnUsedAll", spec := "fnUsedAll", inPlace := ["internal/bytealg.CountString", "internal/bytealg.IndexByteString", "internal/bytealg.IndexString", "slices.overlaps[*loop.example/snapshotfiles/impl.node]"], unfollowed := true, recurses := true, named := ["unicode/utf8.first", "unicode/utf8.acceptRanges", "internal/bytealg.MaxLen"], apart := false, laid := [("unicode/utf8.acceptRanges", laid_unicode_utf8_acceptRanges), ("unicode/utf8.first", laid_unicode_utf8_first)], narrowed := true }
def FnUsedAllUptoSaid : Prop := fnUsedAllUptoRow.holds Tryz.pinned (OpenSpec.upto fnUsedAllSpec)

/-- 'laws.FnUsedParts', WHERE WHAT IT READS IS OF BULK AT MOST 1048576: true; the input reads as it did. -/
def fnUsedPartsUptoRow : OpenClaim := { program := "ytdnnojghjnjnfaagreatdoor", sum := "c60e8f3ea1d0f9e36491ef41f0cff633a4a9f5c7756c806a7ac1e76099a924f1", func := "loop.example/snapshotfiles/laws.FnUsedParts", spec := "fnUsedParts", inPlace := ["internal/bytealg.CountString", "internal/bytealg.IndexByteString", "internal/bytealg.IndexString", "slices.overlaps[*loop.example/snapshotfiles/impl.node]"], unfollowed := true, recurses := true, named := ["unicode/utf8.first", "unicode/utf8.acceptRanges", "internal/bytealg.MaxLen"], apart := false, laid := [("unicode/utf8.acceptRanges", laid_unicode_utf8_acceptRanges), ("unicode/utf8.first", laid_unicode_utf8_first)], narrowed := true }
def FnUsedPartsUptoSaid : Prop := fnUsedPartsUptoRow.holds Tryz.pinned (OpenSpec.upto fnUsedPartsSpec)

/-- 'laws.FnUsed', WHERE WHAT IT READS IS OF BULK AT MOST 1048576: true; the input reads as it did. -/
def fnUsedUptoRow : OpenClaim := { program := "ytdnnojghjnjnfaagreatdoor", sum := "c60e8f3ea1d0f9e36491ef41f0cff633a4a9f5c7756c806a7ac1e76099a924f1", func := "loop.example/snapshotfiles/laws.FnUsed", spec := "fnUsed", inPlace := ["internal/bytealg.CountString", "internal/bytealg.IndexByteString", "internal/bytealg.IndexString", "slices.overlaps[*loop.example/snapshotfiles/impl.node]"], unfollowed := true, recurses := true, named := ["unicode/utf8.first", "unicode/utf8.acceptRanges", "internal/bytealg.MaxLen"], apart := false, laid := [("unicode/utf8.acceptRanges", laid_unicode_utf8_acceptRanges), ("unicode/utf8.first", laid_unicode_utf8_first)], narrowed := true }
def FnUsedUptoSaid : Prop := fnUsedUptoRow.holds Tryz.pinned (OpenSpec.upto fnUsedSpec)

/-- 'laws.FnHistoryTurns', WHERE WHAT IT READS IS OF BULK AT MOST 1048576: true; the input reads as it did. -/
def fnHistoryTurnsUptoRow : OpenClaim := { program := "ytdnnojghjnjnfaagreatdoor", sum := "c60e8f3ea1d0f9e36491ef41f0cff633a4a9f5c7756c806a7ac1e76099a924f1", func := "loop.example/snapshotfiles/laws.FnHistoryTurns", spec := "fnHistoryTurns", inPlace := ["internal/bytealg.CountString", "internal/bytealg.IndexByteString", "internal/bytealg.IndexString", "slices.overlaps[*loop.example/snapshotfiles/impl.node]"], unfollowed := true, recurses := true, named := ["unicode/utf8.first", "unicode/utf8.acceptRanges", "internal/bytealg.MaxLen"], apart := false, laid := [("unicode/utf8.acceptRanges", laid_unicode_utf8_acceptRanges), ("unicode/utf8.first", laid_unicode_utf8_first)], narrowed := true }
def FnHistoryTurnsUptoSaid : Prop := fnHistoryTurnsUptoRow.holds Tryz.pinned (OpenSpec.upto fnHistoryTurnsSpec)

/-- 'laws.FnHistory', WHERE WHAT IT READS IS OF BULK AT MOST 1048576: true; the input reads as it did. -/
def fnHistoryUptoRow : OpenClaim := { program := "ytdnnojghjnjnfaagreatdoor", sum := "c60e8f3ea1d0f9e36491ef41f0cff633a4a9f5c7756c806a7ac1e76099a924f1", func := "loop.example/snapshotfiles/laws.FnHistory", spec := "fnHistory", inPlace := ["internal/bytealg.CountString", "internal/bytealg.IndexByteString", "internal/bytealg.IndexString", "slices.overlaps[*loop.example/snapshotfiles/impl.node]"], unfollowed := true, recurses := true, named := ["unicode/utf8.first", "unicode/utf8.acceptRanges", "internal/bytealg.MaxLen"], apart := false, laid := [("unicode/utf8.acceptRanges", laid_unicode_utf8_acceptRanges), ("unicode/utf8.first", laid_unicode_utf8_first)], narrowed := true }
def FnHistoryUptoSaid : Prop := fnHistoryUptoRow.holds Tryz.pinned (OpenSpec.upto fnHistorySpec)

/-- 'laws.FnHistoryNone', WHERE WHAT IT READS IS OF BULK AT MOST 1048576: true; the input reads as it did. -/
def fnHistoryNoneUptoRow : OpenClaim := { program := "ytdnnojghjnjnfaagreatdoor", sum := "c60e8f3ea1d0f9e36491ef41f0cff633a4a9f5c7756c806a7ac1e76099a924f1", func := "loop.example/snapshotfiles/laws.FnHistoryNone", spec := "fnHistoryNone", inPlace := ["internal/bytealg.CountString", "internal/bytealg.IndexByteString", "internal/bytealg.IndexString", "slices.overlaps[*loop.example/snapshotfiles/impl.node]"], unfollowed := true, recurses := true, named := ["unicode/utf8.first", "unicode/utf8.acceptRanges", "internal/bytealg.MaxLen"], apart := false, laid := [("unicode/utf8.acceptRanges", laid_unicode_utf8_acceptRanges), ("unicode/utf8.first", laid_unicode_utf8_first)], narrowed := true }
def FnHistoryNoneUptoSaid : Prop := fnHistoryNoneUptoRow.holds Tryz.pinned (OpenSpec.upto fnHistoryNoneSpec)

end Rows
end Go.Proofs.YtdnnojghjnjnfaaGreatDoor
