/-
  NARROWER THAN 'FOR EVERY INPUT', by the rows' own cells (each row's printed sentence says how): FnExactHistoryLast: laid · FnExactQuotaUsed: laid · FnExactTreeText: laid · FnExactSnapRead: laid · FnExactHistoryOf: laid · FnExactQuotasAllow: ifaces, laid · FnExactQuotasOver: ifaces, laid · FnExactDiskText: laid · FnExactVolumeDir: laid · FnExactVolumeDrop: laid · FnExactCountShared: laid · FnExactCountOnly: laid · FnExactCountBytes: laid · FnExactStreamOf: laid.
  DERIVED. THE GIVEN ROWS OF THIS SEAT. 14 by the template 'for every input the law returns true; each argument reads behind the call as it read before'; 0 by the template 'total and deterministic' (their statements: YtadjkgdlpaddjaaGreatDoorTotals.lean).
  GIVEN WITH THE SEED: the statements are not yours to turn. If you find one false, say at which input.
  Laid BY PROGRAM, IN A SANDBOX (cutbox-rows.mjs): the forced cells as the released guide's own fill.sh prints them over the translation c3e27d699af850c7… (all of the seat's roots in one cut). By AI agents, Wed Nov 11 2026. No macro, syntax, notation, axiom, sorry.
-/
import Derived.Test.YtadjkgdlpaddjaaGreatDoorChecked
import GoSem.PinnedTables
import GoSem.Claim
import GoSem.ClaimJoined
import GoSem.ClaimMapViews
import Derived.JoinedTies
import Derived.KernelRfl
namespace Go.Proofs.YtadjkgdlpaddjaaGreatDoor
/- THE CELL 'sum', in the pinned program and in every row, IS THE sha256 OF THE DUMP (.gsa) THAT YtadjkgdlpaddjaaGreatDoorProg.lean LOADS. Nothing in Lean hashes anything: it is a label: what it is worth is what the hold of that sum in a sandbox is worth. -/
noncomputable def Tryz.pinned : Pinned := { name := "ytadjkgdlpaddjaagreatdoor", sum := "c3e27d699af850c7852f7cfee25fcfd2cf23e4c2dcc3e667d92e260c4a2f9b61", checked := Tryz.checked }
namespace Rows
def none {H : Type} : Left H := { results := [], args := [] }

/- WHAT THE LISTED PACKAGE-LEVEL VARIABLES READ AS WHEN THE CALL BEGINS. Each datum BY PROGRAM (the guide's laid-datum.mjs) off the statement by which the dump's own 'gosem.cut.vars' lays the variable. In a bare row this is a premise. The card (YtadjkgdlpaddjaaGreatDoorCards.lean) ties it to the program's text. -/
def laid_unicode_utf8_acceptRanges {H : Type} : DataW H := .agg [.agg [.lit (.int .u8 128), .lit (.int .u8 191)], .agg [.lit (.int .u8 160), .lit (.int .u8 191)], .agg [.lit (.int .u8 128), .lit (.int .u8 159)], .agg [.lit (.int .u8 144), .lit (.int .u8 191)], .agg [.lit (.int .u8 128), .lit (.int .u8 143)], .agg [.lit (.int .u8 0), .lit (.int .u8 0)], .agg [.lit (.int .u8 0), .lit (.int .u8 0)], .agg [.lit (.int .u8 0), .lit (.int .u8 0)], .agg [.lit (.int .u8 0), .lit (.int .u8 0)], .agg [.lit (.int .u8 0), .lit (.int .u8 0)], .agg [.lit (.int .u8 0), .lit (.int .u8 0)], .agg [.lit (.int .u8 0), .lit (.int .u8 0)], .agg [.lit (.int .u8 0), .lit (.int .u8 0)], .agg [.lit (.int .u8 0), .lit (.int .u8 0)], .agg [.lit (.int .u8 0), .lit (.int .u8 0)], .agg [.lit (.int .u8 0), .lit (.int .u8 0)]]
/-- One of Go's own tables, pinned by name: the form's constant. -/
def laid_unicode_utf8_first : DataW Unit := Go.Pinned.utf8First
def laid_math_bits_deBruijn32tab {H : Type} : DataW H := .agg [.lit (.int .u8 0), .lit (.int .u8 1), .lit (.int .u8 28), .lit (.int .u8 2), .lit (.int .u8 29), .lit (.int .u8 14), .lit (.int .u8 24), .lit (.int .u8 3), .lit (.int .u8 30), .lit (.int .u8 22), .lit (.int .u8 20), .lit (.int .u8 15), .lit (.int .u8 25), .lit (.int .u8 17), .lit (.int .u8 4), .lit (.int .u8 8), .lit (.int .u8 31), .lit (.int .u8 27), .lit (.int .u8 13), .lit (.int .u8 23), .lit (.int .u8 21), .lit (.int .u8 19), .lit (.int .u8 16), .lit (.int .u8 7), .lit (.int .u8 26), .lit (.int .u8 12), .lit (.int .u8 18), .lit (.int .u8 6), .lit (.int .u8 11), .lit (.int .u8 5), .lit (.int .u8 10), .lit (.int .u8 9)]
def laid_math_bits_deBruijn64tab {H : Type} : DataW H := .agg [.lit (.int .u8 0), .lit (.int .u8 1), .lit (.int .u8 56), .lit (.int .u8 2), .lit (.int .u8 57), .lit (.int .u8 49), .lit (.int .u8 28), .lit (.int .u8 3), .lit (.int .u8 61), .lit (.int .u8 58), .lit (.int .u8 42), .lit (.int .u8 50), .lit (.int .u8 38), .lit (.int .u8 29), .lit (.int .u8 17), .lit (.int .u8 4), .lit (.int .u8 62), .lit (.int .u8 47), .lit (.int .u8 59), .lit (.int .u8 36), .lit (.int .u8 45), .lit (.int .u8 43), .lit (.int .u8 51), .lit (.int .u8 22), .lit (.int .u8 53), .lit (.int .u8 39), .lit (.int .u8 33), .lit (.int .u8 30), .lit (.int .u8 24), .lit (.int .u8 18), .lit (.int .u8 12), .lit (.int .u8 5), .lit (.int .u8 63), .lit (.int .u8 55), .lit (.int .u8 48), .lit (.int .u8 27), .lit (.int .u8 60), .lit (.int .u8 41), .lit (.int .u8 37), .lit (.int .u8 16), .lit (.int .u8 46), .lit (.int .u8 35), .lit (.int .u8 44), .lit (.int .u8 21), .lit (.int .u8 52), .lit (.int .u8 32), .lit (.int .u8 23), .lit (.int .u8 11), .lit (.int .u8 54), .lit (.int .u8 26), .lit (.int .u8 40), .lit (.int .u8 15), .lit (.int .u8 34), .lit (.int .u8 20), .lit (.int .u8 31), .lit (.int .u8 10), .lit (.int .u8 25), .lit (.int .u8 14), .lit (.int .u8 19), .lit (.int .u8 9), .lit (.int .u8 13), .lit (.int .u8 8), .lit (.int .u8 7), .lit (.int .u8 6)]
def laid_internal_strconv_uint64pow10 {H : Type} : DataW H := .agg [.lit (.int .u64 1), .lit (.int .u64 10), .lit (.int .u64 100), .lit (.int .u64 1000), .lit (.int .u64 10000), .lit (.int .u64 100000), .lit (.int .u64 1000000), .lit (.int .u64 10000000), .lit (.int .u64 100000000), .lit (.int .u64 1000000000), .lit (.int .u64 10000000000), .lit (.int .u64 100000000000), .lit (.int .u64 1000000000000), .lit (.int .u64 10000000000000), .lit (.int .u64 100000000000000), .lit (.int .u64 1000000000000000), .lit (.int .u64 10000000000000000), .lit (.int .u64 100000000000000000), .lit (.int .u64 1000000000000000000), .lit (.int .u64 10000000000000000000)]
def laid_loop_example_snapshotfiles_impl_errBroken {H : Type} : DataW H := .iface "*errors.errorString" (.ptr (.agg [.lit (.string [113, 117, 111, 116, 97, 32, 105, 115, 32, 98, 114, 111, 107, 101, 110])]))
def laid_errors_errorType {H : Type} : DataW H := .iface "internal/reflectlite.rtype" (.agg [.ptr (.lit (.string [101, 114, 114, 111, 114]))])

/-- 'laws.FnExactHistoryLast': WHATEVER THE INPUT: true; the input reads as it did. -/
def fnExactHistoryLastSpec : ChangeSpec := { name := "fnExactHistoryLast", fn := fun _ => fun
  | [d1, d2] => { results := [.lit (.bool true)], args := [d1, d2] }
  | _ => none }
def fnExactHistoryLastRow : OpenClaim := { program := "ytadjkgdlpaddjaagreatdoor", sum := "c3e27d699af850c7852f7cfee25fcfd2cf23e4c2dcc3e667d92e260c4a2f9b61", func := "loop.example/snapshotfiles/laws.FnExactHistoryLast", spec := "fnExactHistoryLast", inPlace := ["internal/bytealg.CountString", "internal/bytealg.IndexByteString", "internal/bytealg.IndexString", "slices.overlaps[*loop.example/snapshotfiles/impl.node]"], unfollowed := true, recurses := true, named := ["unicode/utf8.first", "unicode/utf8.acceptRanges", "internal/bytealg.MaxLen"], apart := false, laid := [("unicode/utf8.acceptRanges", laid_unicode_utf8_acceptRanges), ("unicode/utf8.first", laid_unicode_utf8_first)] }
def FnExactHistoryLastSaid : Prop := fnExactHistoryLastRow.holds Tryz.pinned (OpenSpec.ofChange fnExactHistoryLastSpec)

/-- ITS FALSE NEIGHBOUR: 'it returns false'. Refute it at one input. -/
def fnExactHistoryLastWrong : ChangeSpec := { name := "fnExactHistoryLast", fn := fun _ => fun
  | [d1, d2] => { results := [.lit (.bool false)], args := [d1, d2] }
  | _ => none }
def FnExactHistoryLastWrongFalsely : Prop := fnExactHistoryLastRow.holds Tryz.pinned (OpenSpec.ofChange fnExactHistoryLastWrong)

/-- 'laws.FnExactQuotaUsed': WHATEVER THE INPUT: true; the input reads as it did. -/
def fnExactQuotaUsedSpec : ChangeSpec := { name := "fnExactQuotaUsed", fn := fun _ => fun
  | [d1, d2] => { results := [.lit (.bool true)], args := [d1, d2] }
  | _ => none }
def fnExactQuotaUsedRow : OpenClaim := { program := "ytadjkgdlpaddjaagreatdoor", sum := "c3e27d699af850c7852f7cfee25fcfd2cf23e4c2dcc3e667d92e260c4a2f9b61", func := "loop.example/snapshotfiles/laws.FnExactQuotaUsed", spec := "fnExactQuotaUsed", inPlace := ["internal/bytealg.CountString", "internal/bytealg.IndexByteString", "internal/bytealg.IndexString", "slices.overlaps[*loop.example/snapshotfiles/impl.node]"], unfollowed := true, recurses := true, named := ["unicode/utf8.first", "unicode/utf8.acceptRanges", "internal/bytealg.MaxLen"], apart := false, laid := [("unicode/utf8.acceptRanges", laid_unicode_utf8_acceptRanges), ("unicode/utf8.first", laid_unicode_utf8_first)] }
def FnExactQuotaUsedSaid : Prop := fnExactQuotaUsedRow.holds Tryz.pinned (OpenSpec.ofChange fnExactQuotaUsedSpec)

/-- ITS FALSE NEIGHBOUR: 'it returns false'. Refute it at one input. -/
def fnExactQuotaUsedWrong : ChangeSpec := { name := "fnExactQuotaUsed", fn := fun _ => fun
  | [d1, d2] => { results := [.lit (.bool false)], args := [d1, d2] }
  | _ => none }
def FnExactQuotaUsedWrongFalsely : Prop := fnExactQuotaUsedRow.holds Tryz.pinned (OpenSpec.ofChange fnExactQuotaUsedWrong)

/-- 'laws.FnExactTreeText': WHATEVER THE INPUT: true; the input reads as it did. -/
def fnExactTreeTextSpec : ChangeSpec := { name := "fnExactTreeText", fn := fun _ => fun
  | [d1, d2] => { results := [.lit (.bool true)], args := [d1, d2] }
  | _ => none }
def fnExactTreeTextRow : OpenClaim := { program := "ytadjkgdlpaddjaagreatdoor", sum := "c3e27d699af850c7852f7cfee25fcfd2cf23e4c2dcc3e667d92e260c4a2f9b61", func := "loop.example/snapshotfiles/laws.FnExactTreeText", spec := "fnExactTreeText", inPlace := ["internal/bytealg.CountString", "internal/bytealg.IndexByteString", "internal/bytealg.IndexString", "slices.overlaps[*loop.example/snapshotfiles/impl.node]", "internal/abi.NoEscape"], unfollowed := true, recurses := true, named := ["unicode/utf8.first", "unicode/utf8.acceptRanges", "internal/bytealg.MaxLen", "internal/strconv.uint64pow10", "math/bits.deBruijn32tab", "math/bits.deBruijn64tab"], apart := false, laid := [("math/bits.deBruijn32tab", laid_math_bits_deBruijn32tab), ("math/bits.deBruijn64tab", laid_math_bits_deBruijn64tab), ("internal/strconv.uint64pow10", laid_internal_strconv_uint64pow10), ("unicode/utf8.acceptRanges", laid_unicode_utf8_acceptRanges), ("unicode/utf8.first", laid_unicode_utf8_first)] }
def FnExactTreeTextSaid : Prop := fnExactTreeTextRow.holds Tryz.pinned (OpenSpec.ofChange fnExactTreeTextSpec)

/-- ITS FALSE NEIGHBOUR: 'it returns false'. Refute it at one input. -/
def fnExactTreeTextWrong : ChangeSpec := { name := "fnExactTreeText", fn := fun _ => fun
  | [d1, d2] => { results := [.lit (.bool false)], args := [d1, d2] }
  | _ => none }
def FnExactTreeTextWrongFalsely : Prop := fnExactTreeTextRow.holds Tryz.pinned (OpenSpec.ofChange fnExactTreeTextWrong)

/-- 'laws.FnExactSnapRead': WHATEVER THE INPUT: true; the input reads as it did. -/
def fnExactSnapReadSpec : ChangeSpec := { name := "fnExactSnapRead", fn := fun _ => fun
  | [d1, d2, d3] => { results := [.lit (.bool true)], args := [d1, d2, d3] }
  | _ => none }
def fnExactSnapReadRow : OpenClaim := { program := "ytadjkgdlpaddjaagreatdoor", sum := "c3e27d699af850c7852f7cfee25fcfd2cf23e4c2dcc3e667d92e260c4a2f9b61", func := "loop.example/snapshotfiles/laws.FnExactSnapRead", spec := "fnExactSnapRead", inPlace := ["internal/bytealg.CountString", "internal/bytealg.IndexByteString", "internal/bytealg.IndexString", "slices.overlaps[*loop.example/snapshotfiles/impl.node]", "(*internal/sync.Mutex).Lock", "internal/race.Disable", "sync/atomic.CompareAndSwapInt32", "internal/race.Enable", "internal/race.Acquire", "(*internal/sync.Mutex).lockSlow", "internal/sync.runtime_canSpin", "internal/sync.runtime_doSpin", "internal/sync.throw", "internal/sync.runtime_nanotime", "internal/sync.runtime_SemacquireMutex", "sync/atomic.AddInt32", "(*internal/sync.Mutex).Unlock", "internal/race.ReleaseMerge", "(*internal/sync.Mutex).unlockSlow", "internal/sync.fatal", "internal/sync.runtime_Semrelease"], unfollowed := true, recurses := true, named := ["unicode/utf8.first", "unicode/utf8.acceptRanges", "internal/bytealg.MaxLen"], apart := false, laid := [("unicode/utf8.acceptRanges", laid_unicode_utf8_acceptRanges), ("unicode/utf8.first", laid_unicode_utf8_first)] }
def FnExactSnapReadSaid : Prop := fnExactSnapReadRow.holds Tryz.pinned (OpenSpec.ofChange fnExactSnapReadSpec)

/-- ITS FALSE NEIGHBOUR: 'it returns false'. Refute it at one input. -/
def fnExactSnapReadWrong : ChangeSpec := { name := "fnExactSnapRead", fn := fun _ => fun
  | [d1, d2, d3] => { results := [.lit (.bool false)], args := [d1, d2, d3] }
  | _ => none }
def FnExactSnapReadWrongFalsely : Prop := fnExactSnapReadRow.holds Tryz.pinned (OpenSpec.ofChange fnExactSnapReadWrong)

/-- 'laws.FnExactHistoryOf': WHATEVER THE INPUT: true; the input reads as it did. -/
def fnExactHistoryOfSpec : ChangeSpec := { name := "fnExactHistoryOf", fn := fun _ => fun
  | [d1, d2] => { results := [.lit (.bool true)], args := [d1, d2] }
  | _ => none }
def fnExactHistoryOfRow : OpenClaim := { program := "ytadjkgdlpaddjaagreatdoor", sum := "c3e27d699af850c7852f7cfee25fcfd2cf23e4c2dcc3e667d92e260c4a2f9b61", func := "loop.example/snapshotfiles/laws.FnExactHistoryOf", spec := "fnExactHistoryOf", inPlace := ["internal/bytealg.CountString", "internal/bytealg.IndexByteString", "internal/bytealg.IndexString", "slices.overlaps[*loop.example/snapshotfiles/impl.node]"], unfollowed := true, recurses := true, named := ["unicode/utf8.first", "unicode/utf8.acceptRanges", "internal/bytealg.MaxLen"], apart := false, laid := [("unicode/utf8.acceptRanges", laid_unicode_utf8_acceptRanges), ("unicode/utf8.first", laid_unicode_utf8_first)] }
def FnExactHistoryOfSaid : Prop := fnExactHistoryOfRow.holds Tryz.pinned (OpenSpec.ofChange fnExactHistoryOfSpec)

/-- ITS FALSE NEIGHBOUR: 'it returns false'. Refute it at one input. -/
def fnExactHistoryOfWrong : ChangeSpec := { name := "fnExactHistoryOf", fn := fun _ => fun
  | [d1, d2] => { results := [.lit (.bool false)], args := [d1, d2] }
  | _ => none }
def FnExactHistoryOfWrongFalsely : Prop := fnExactHistoryOfRow.holds Tryz.pinned (OpenSpec.ofChange fnExactHistoryOfWrong)

/-- 'laws.FnExactQuotasAllow': WHATEVER THE INPUT: true; the input reads as it did. -/
def fnExactQuotasAllowSpec : ChangeSpec := { name := "fnExactQuotasAllow", vars := ["loop.example/snapshotfiles/impl.errBroken"], fn := fun _ => fun
  | [d1, d2, d3, d4, g1] => { results := [.lit (.bool true)], args := [d1, d2, d3, d4], vars := [g1] }
  | _ => none }
def fnExactQuotasAllowRow : OpenClaim := { program := "ytadjkgdlpaddjaagreatdoor", sum := "c3e27d699af850c7852f7cfee25fcfd2cf23e4c2dcc3e667d92e260c4a2f9b61", func := "loop.example/snapshotfiles/laws.FnExactQuotasAllow", spec := "fnExactQuotasAllow", inPlace := ["internal/bytealg.CountString", "internal/bytealg.IndexByteString", "internal/bytealg.IndexString", "slices.overlaps[*loop.example/snapshotfiles/impl.node]", "internal/reflectlite.TypeOf"], unfollowed := true, recurses := true, named := ["loop.example/snapshotfiles/impl.errBroken", "unicode/utf8.first", "unicode/utf8.acceptRanges", "internal/bytealg.MaxLen"], ifaces := true, apart := false, laid := [("unicode/utf8.acceptRanges", laid_unicode_utf8_acceptRanges), ("loop.example/snapshotfiles/impl.errBroken", laid_loop_example_snapshotfiles_impl_errBroken), ("unicode/utf8.first", laid_unicode_utf8_first)] }
def FnExactQuotasAllowSaid : Prop := fnExactQuotasAllowRow.holds Tryz.pinned (OpenSpec.ofChange fnExactQuotasAllowSpec)

/-- ITS FALSE NEIGHBOUR: 'it returns false'. Refute it at one input. -/
def fnExactQuotasAllowWrong : ChangeSpec := { name := "fnExactQuotasAllow", vars := ["loop.example/snapshotfiles/impl.errBroken"], fn := fun _ => fun
  | [d1, d2, d3, d4, g1] => { results := [.lit (.bool false)], args := [d1, d2, d3, d4], vars := [g1] }
  | _ => none }
def FnExactQuotasAllowWrongFalsely : Prop := fnExactQuotasAllowRow.holds Tryz.pinned (OpenSpec.ofChange fnExactQuotasAllowWrong)

/-- 'laws.FnExactQuotasOver': WHATEVER THE INPUT: true; the input reads as it did. -/
def fnExactQuotasOverSpec : ChangeSpec := { name := "fnExactQuotasOver", vars := ["loop.example/snapshotfiles/impl.errBroken"], fn := fun _ => fun
  | [d1, d2, g1] => { results := [.lit (.bool true)], args := [d1, d2], vars := [g1] }
  | _ => none }
def fnExactQuotasOverRow : OpenClaim := { program := "ytadjkgdlpaddjaagreatdoor", sum := "c3e27d699af850c7852f7cfee25fcfd2cf23e4c2dcc3e667d92e260c4a2f9b61", func := "loop.example/snapshotfiles/laws.FnExactQuotasOver", spec := "fnExactQuotasOver", inPlace := ["internal/bytealg.CountString", "internal/bytealg.IndexByteString", "internal/bytealg.IndexString", "slices.overlaps[*loop.example/snapshotfiles/impl.node]", "internal/reflectlite.TypeOf"], unfollowed := true, recurses := true, named := ["loop.example/snapshotfiles/impl.errBroken", "unicode/utf8.first", "unicode/utf8.acceptRanges", "internal/bytealg.MaxLen"], ifaces := true, apart := false, laid := [("unicode/utf8.acceptRanges", laid_unicode_utf8_acceptRanges), ("loop.example/snapshotfiles/impl.errBroken", laid_loop_example_snapshotfiles_impl_errBroken), ("unicode/utf8.first", laid_unicode_utf8_first)] }
def FnExactQuotasOverSaid : Prop := fnExactQuotasOverRow.holds Tryz.pinned (OpenSpec.ofChange fnExactQuotasOverSpec)

/-- ITS FALSE NEIGHBOUR: 'it returns false'. Refute it at one input. -/
def fnExactQuotasOverWrong : ChangeSpec := { name := "fnExactQuotasOver", vars := ["loop.example/snapshotfiles/impl.errBroken"], fn := fun _ => fun
  | [d1, d2, g1] => { results := [.lit (.bool false)], args := [d1, d2], vars := [g1] }
  | _ => none }
def FnExactQuotasOverWrongFalsely : Prop := fnExactQuotasOverRow.holds Tryz.pinned (OpenSpec.ofChange fnExactQuotasOverWrong)

/-- 'laws.FnExactDiskText': WHATEVER THE INPUT: true; the input reads as it did. -/
def fnExactDiskTextSpec : ChangeSpec := { name := "fnExactDiskText", fn := fun _ => fun
  | [d] => { results := [.lit (.bool true)], args := [d] }
  | _ => none }
def fnExactDiskTextRow : OpenClaim := { program := "ytadjkgdlpaddjaagreatdoor", sum := "c3e27d699af850c7852f7cfee25fcfd2cf23e4c2dcc3e667d92e260c4a2f9b61", func := "loop.example/snapshotfiles/laws.FnExactDiskText", spec := "fnExactDiskText", inPlace := ["internal/bytealg.CountString", "internal/bytealg.IndexByteString", "internal/bytealg.IndexString", "slices.overlaps[*loop.example/snapshotfiles/impl.node]", "internal/abi.NoEscape"], unfollowed := true, recurses := true, named := ["unicode/utf8.first", "unicode/utf8.acceptRanges", "internal/bytealg.MaxLen", "internal/strconv.uint64pow10", "math/bits.deBruijn32tab", "math/bits.deBruijn64tab"], apart := false, laid := [("math/bits.deBruijn32tab", laid_math_bits_deBruijn32tab), ("math/bits.deBruijn64tab", laid_math_bits_deBruijn64tab), ("internal/strconv.uint64pow10", laid_internal_strconv_uint64pow10), ("unicode/utf8.acceptRanges", laid_unicode_utf8_acceptRanges), ("unicode/utf8.first", laid_unicode_utf8_first)] }
def FnExactDiskTextSaid : Prop := fnExactDiskTextRow.holds Tryz.pinned (OpenSpec.ofChange fnExactDiskTextSpec)

/-- ITS FALSE NEIGHBOUR: 'it returns false'. Refute it at one input. -/
def fnExactDiskTextWrong : ChangeSpec := { name := "fnExactDiskText", fn := fun _ => fun
  | [d] => { results := [.lit (.bool false)], args := [d] }
  | _ => none }
def FnExactDiskTextWrongFalsely : Prop := fnExactDiskTextRow.holds Tryz.pinned (OpenSpec.ofChange fnExactDiskTextWrong)

/-- 'laws.FnExactVolumeDir': WHATEVER THE INPUT: true; the input reads as it did. -/
def fnExactVolumeDirSpec : ChangeSpec := { name := "fnExactVolumeDir", fn := fun _ => fun
  | [d1, d2] => { results := [.lit (.bool true)], args := [d1, d2] }
  | _ => none }
def fnExactVolumeDirRow : OpenClaim := { program := "ytadjkgdlpaddjaagreatdoor", sum := "c3e27d699af850c7852f7cfee25fcfd2cf23e4c2dcc3e667d92e260c4a2f9b61", func := "loop.example/snapshotfiles/laws.FnExactVolumeDir", spec := "fnExactVolumeDir", inPlace := ["internal/bytealg.CountString", "internal/bytealg.IndexByteString", "internal/bytealg.IndexString", "slices.overlaps[*loop.example/snapshotfiles/impl.node]"], unfollowed := true, recurses := true, named := ["unicode/utf8.first", "unicode/utf8.acceptRanges", "internal/bytealg.MaxLen"], apart := false, laid := [("unicode/utf8.acceptRanges", laid_unicode_utf8_acceptRanges), ("unicode/utf8.first", laid_unicode_utf8_first)] }
def FnExactVolumeDirSaid : Prop := fnExactVolumeDirRow.holds Tryz.pinned (OpenSpec.ofChange fnExactVolumeDirSpec)

/-- ITS FALSE NEIGHBOUR: 'it returns false'. Refute it at one input. -/
def fnExactVolumeDirWrong : ChangeSpec := { name := "fnExactVolumeDir", fn := fun _ => fun
  | [d1, d2] => { results := [.lit (.bool false)], args := [d1, d2] }
  | _ => none }
def FnExactVolumeDirWrongFalsely : Prop := fnExactVolumeDirRow.holds Tryz.pinned (OpenSpec.ofChange fnExactVolumeDirWrong)

/-- 'laws.FnExactVolumeDrop': WHATEVER THE INPUT: true; the input reads as it did. -/
def fnExactVolumeDropSpec : ChangeSpec := { name := "fnExactVolumeDrop", fn := fun _ => fun
  | [d1, d2] => { results := [.lit (.bool true)], args := [d1, d2] }
  | _ => none }
def fnExactVolumeDropRow : OpenClaim := { program := "ytadjkgdlpaddjaagreatdoor", sum := "c3e27d699af850c7852f7cfee25fcfd2cf23e4c2dcc3e667d92e260c4a2f9b61", func := "loop.example/snapshotfiles/laws.FnExactVolumeDrop", spec := "fnExactVolumeDrop", inPlace := ["internal/bytealg.CountString", "internal/bytealg.IndexByteString", "internal/bytealg.IndexString", "slices.overlaps[*loop.example/snapshotfiles/impl.node]"], unfollowed := true, recurses := true, named := ["unicode/utf8.first", "unicode/utf8.acceptRanges", "internal/bytealg.MaxLen"], apart := false, laid := [("unicode/utf8.acceptRanges", laid_unicode_utf8_acceptRanges), ("unicode/utf8.first", laid_unicode_utf8_first)] }
def FnExactVolumeDropSaid : Prop := fnExactVolumeDropRow.holds Tryz.pinned (OpenSpec.ofChange fnExactVolumeDropSpec)

/-- ITS FALSE NEIGHBOUR: 'it returns false'. Refute it at one input. -/
def fnExactVolumeDropWrong : ChangeSpec := { name := "fnExactVolumeDrop", fn := fun _ => fun
  | [d1, d2] => { results := [.lit (.bool false)], args := [d1, d2] }
  | _ => none }
def FnExactVolumeDropWrongFalsely : Prop := fnExactVolumeDropRow.holds Tryz.pinned (OpenSpec.ofChange fnExactVolumeDropWrong)

/-- 'laws.FnExactCountShared': WHATEVER THE INPUT: true; the input reads as it did. -/
def fnExactCountSharedSpec : ChangeSpec := { name := "fnExactCountShared", fn := fun _ => fun
  | [d] => { results := [.lit (.bool true)], args := [d] }
  | _ => none }
def fnExactCountSharedRow : OpenClaim := { program := "ytadjkgdlpaddjaagreatdoor", sum := "c3e27d699af850c7852f7cfee25fcfd2cf23e4c2dcc3e667d92e260c4a2f9b61", func := "loop.example/snapshotfiles/laws.FnExactCountShared", spec := "fnExactCountShared", inPlace := ["internal/bytealg.CountString", "internal/bytealg.IndexByteString", "internal/bytealg.IndexString", "slices.overlaps[*loop.example/snapshotfiles/impl.node]", "internal/reflectlite.ValueOf", "(internal/reflectlite.Value).Type", "(internal/reflectlite.Value).IsNil", "internal/reflectlite.TypeOf", "(internal/reflectlite.Value).Elem", "(internal/reflectlite.Value).Set"], unfollowed := true, recurses := true, named := ["unicode/utf8.first", "unicode/utf8.acceptRanges", "internal/bytealg.MaxLen", "errors.errorType"], apart := false, laid := [("unicode/utf8.acceptRanges", laid_unicode_utf8_acceptRanges), ("errors.errorType", laid_errors_errorType), ("unicode/utf8.first", laid_unicode_utf8_first)] }
def FnExactCountSharedSaid : Prop := fnExactCountSharedRow.holds Tryz.pinned (OpenSpec.ofChange fnExactCountSharedSpec)

/-- ITS FALSE NEIGHBOUR: 'it returns false'. Refute it at one input. -/
def fnExactCountSharedWrong : ChangeSpec := { name := "fnExactCountShared", fn := fun _ => fun
  | [d] => { results := [.lit (.bool false)], args := [d] }
  | _ => none }
def FnExactCountSharedWrongFalsely : Prop := fnExactCountSharedRow.holds Tryz.pinned (OpenSpec.ofChange fnExactCountSharedWrong)

/-- 'laws.FnExactCountOnly': WHATEVER THE INPUT: true; the input reads as it did. -/
def fnExactCountOnlySpec : ChangeSpec := { name := "fnExactCountOnly", fn := fun _ => fun
  | [d1, d2] => { results := [.lit (.bool true)], args := [d1, d2] }
  | _ => none }
def fnExactCountOnlyRow : OpenClaim := { program := "ytadjkgdlpaddjaagreatdoor", sum := "c3e27d699af850c7852f7cfee25fcfd2cf23e4c2dcc3e667d92e260c4a2f9b61", func := "loop.example/snapshotfiles/laws.FnExactCountOnly", spec := "fnExactCountOnly", inPlace := ["internal/bytealg.CountString", "internal/bytealg.IndexByteString", "internal/bytealg.IndexString", "slices.overlaps[*loop.example/snapshotfiles/impl.node]", "internal/reflectlite.ValueOf", "(internal/reflectlite.Value).Type", "(internal/reflectlite.Value).IsNil", "internal/reflectlite.TypeOf", "(internal/reflectlite.Value).Elem", "(internal/reflectlite.Value).Set"], unfollowed := true, recurses := true, named := ["unicode/utf8.first", "unicode/utf8.acceptRanges", "internal/bytealg.MaxLen", "errors.errorType"], apart := false, laid := [("unicode/utf8.acceptRanges", laid_unicode_utf8_acceptRanges), ("errors.errorType", laid_errors_errorType), ("unicode/utf8.first", laid_unicode_utf8_first)] }
def FnExactCountOnlySaid : Prop := fnExactCountOnlyRow.holds Tryz.pinned (OpenSpec.ofChange fnExactCountOnlySpec)

/-- ITS FALSE NEIGHBOUR: 'it returns false'. Refute it at one input. -/
def fnExactCountOnlyWrong : ChangeSpec := { name := "fnExactCountOnly", fn := fun _ => fun
  | [d1, d2] => { results := [.lit (.bool false)], args := [d1, d2] }
  | _ => none }
def FnExactCountOnlyWrongFalsely : Prop := fnExactCountOnlyRow.holds Tryz.pinned (OpenSpec.ofChange fnExactCountOnlyWrong)

/-- 'laws.FnExactCountBytes': WHATEVER THE INPUT: true; the input reads as it did. -/
def fnExactCountBytesSpec : ChangeSpec := { name := "fnExactCountBytes", fn := fun _ => fun
  | [d] => { results := [.lit (.bool true)], args := [d] }
  | _ => none }
def fnExactCountBytesRow : OpenClaim := { program := "ytadjkgdlpaddjaagreatdoor", sum := "c3e27d699af850c7852f7cfee25fcfd2cf23e4c2dcc3e667d92e260c4a2f9b61", func := "loop.example/snapshotfiles/laws.FnExactCountBytes", spec := "fnExactCountBytes", inPlace := ["internal/bytealg.CountString", "internal/bytealg.IndexByteString", "internal/bytealg.IndexString", "slices.overlaps[*loop.example/snapshotfiles/impl.node]", "internal/reflectlite.ValueOf", "(internal/reflectlite.Value).Type", "(internal/reflectlite.Value).IsNil", "internal/reflectlite.TypeOf", "(internal/reflectlite.Value).Elem", "(internal/reflectlite.Value).Set"], unfollowed := true, recurses := true, named := ["unicode/utf8.first", "unicode/utf8.acceptRanges", "internal/bytealg.MaxLen", "errors.errorType"], apart := false, laid := [("unicode/utf8.acceptRanges", laid_unicode_utf8_acceptRanges), ("errors.errorType", laid_errors_errorType), ("unicode/utf8.first", laid_unicode_utf8_first)] }
def FnExactCountBytesSaid : Prop := fnExactCountBytesRow.holds Tryz.pinned (OpenSpec.ofChange fnExactCountBytesSpec)

/-- ITS FALSE NEIGHBOUR: 'it returns false'. Refute it at one input. -/
def fnExactCountBytesWrong : ChangeSpec := { name := "fnExactCountBytes", fn := fun _ => fun
  | [d] => { results := [.lit (.bool false)], args := [d] }
  | _ => none }
def FnExactCountBytesWrongFalsely : Prop := fnExactCountBytesRow.holds Tryz.pinned (OpenSpec.ofChange fnExactCountBytesWrong)

/-- 'laws.FnExactStreamOf': WHATEVER THE INPUT: true; the input reads as it did. -/
def fnExactStreamOfSpec : ChangeSpec := { name := "fnExactStreamOf", fn := fun _ => fun
  | [d1, d2, d3] => { results := [.lit (.bool true)], args := [d1, d2, d3] }
  | _ => none }
def fnExactStreamOfRow : OpenClaim := { program := "ytadjkgdlpaddjaagreatdoor", sum := "c3e27d699af850c7852f7cfee25fcfd2cf23e4c2dcc3e667d92e260c4a2f9b61", func := "loop.example/snapshotfiles/laws.FnExactStreamOf", spec := "fnExactStreamOf", inPlace := ["internal/bytealg.CountString", "internal/bytealg.IndexByteString", "internal/bytealg.IndexString", "slices.overlaps[*loop.example/snapshotfiles/impl.node]"], unfollowed := true, recurses := true, named := ["unicode/utf8.first", "unicode/utf8.acceptRanges", "internal/bytealg.MaxLen"], apart := false, laid := [("unicode/utf8.acceptRanges", laid_unicode_utf8_acceptRanges), ("unicode/utf8.first", laid_unicode_utf8_first)] }
def FnExactStreamOfSaid : Prop := fnExactStreamOfRow.holds Tryz.pinned (OpenSpec.ofChange fnExactStreamOfSpec)

/-- ITS FALSE NEIGHBOUR: 'it returns false'. Refute it at one input. -/
def fnExactStreamOfWrong : ChangeSpec := { name := "fnExactStreamOf", fn := fun _ => fun
  | [d1, d2, d3] => { results := [.lit (.bool false)], args := [d1, d2, d3] }
  | _ => none }
def FnExactStreamOfWrongFalsely : Prop := fnExactStreamOfRow.holds Tryz.pinned (OpenSpec.ofChange fnExactStreamOfWrong)

/- THE SECOND FORM. 'bulk': how many values and letters a reading holds, each counted each time it is reached (what is shared counts as often as it is met; a slice's spare places count too). A statement '..UptoSaid' is the law's where the arguments, and the package variables that the reading takes, are together of bulk at most 1048576: NARROWER than '..Said'. Prove '..Said' where nothing that the law and all that it calls make is longer than what came in: it says more and counts as full. Else prove '..UptoSaid'. A law counts once. -/
mutual
def uptoBulk {H : Type} : DataW H → Nat
  | .lit (.string bytes) => bytes.length + 1
  | .lit _ => 1
  | .nil => 1
  | .ptr d => uptoBulk d + 1
  | .slice elems spare => uptoBulkAll elems + uptoBulkAll spare + 1
  | .agg parts => uptoBulkAll parts + 1
  | .iface _ d => uptoBulk d + 1
  | .map entries => uptoBulkEntries entries + 1
  | .held _ => 1
def uptoBulkAll {H : Type} : List (DataW H) → Nat
  | [] => 0
  | d :: r => uptoBulk d + uptoBulkAll r
def uptoBulkEntries {H : Type} : List (Lit × DataW H) → Nat
  | [] => 0
  | x :: r => uptoBulkEntry x + uptoBulkEntries r
def uptoBulkEntry {H : Type} : Lit × DataW H → Nat
  | (.string bytes, d) => bytes.length + uptoBulk d + 1
  | (_, d) => uptoBulk d + 1
 end
def uptoSmall : (H : Type) → List (DataW H) → Bool := fun _ ds => decide (uptoBulkAll ds ≤ 1048576)
def OpenSpec.upto (s : _root_.Go.ChangeSpec) : _root_.Go.OpenSpec := { _root_.Go.OpenSpec.ofChange s with cond := some uptoSmall }

/-- 'laws.FnExactHistoryLast', WHERE WHAT IT READS IS OF BULK AT MOST 1048576: true; the input reads as it did. -/
def fnExactHistoryLastUptoRow : OpenClaim := { program := "ytadjkgdlpaddjaagreatdoor", sum := "c3e27d699af850c7852f7cfee25fcfd2cf23e4c2dcc3e667d92e260c4a2f9b61", func := "loop.example/snapshotfiles/laws.FnExactHistoryLast", spec := "fnExactHistoryLast", inPlace := ["internal/bytealg.CountString", "internal/bytealg.IndexByteString", "internal/bytealg.IndexString", "slices.overlaps[*loop.example/snapshotfiles/impl.node]"], unfollowed := true, recurses := true, named := ["unicode/utf8.first", "unicode/utf8.acceptRanges", "internal/bytealg.MaxLen"], apart := false, laid := [("unicode/utf8.acceptRanges", laid_unicode_utf8_acceptRanges), ("unicode/utf8.first", laid_unicode_utf8_first)], narrowed := true }
def FnExactHistoryLastUptoSaid : Prop := fnExactHistoryLastUptoRow.holds Tryz.pinned (OpenSpec.upto fnExactHistoryLastSpec)

/-- 'laws.FnExactQuotaUsed', WHERE WHAT IT READS IS OF BULK AT MOST 1048576: true; the input reads as it did. -/
def fnExactQuotaUsedUptoRow : OpenClaim := { program := "ytadjkgdlpaddjaagreatdoor", sum := "c3e27d699af850c7852f7cfee25fcfd2cf23e4c2dcc3e667d92e260c4a2f9b61", func := "loop.example/snapshotfiles/laws.FnExactQuotaUsed", spec := "fnExactQuotaUsed", inPlace := ["internal/bytealg.CountString", "internal/bytealg.IndexByteString", "internal/bytealg.IndexString", "slices.overlaps[*loop.example/snapshotfiles/impl.node]"], unfollowed := true, recurses := true, named := ["unicode/utf8.first", "unicode/utf8.acceptRanges", "internal/bytealg.MaxLen"], apart := false, laid := [("unicode/utf8.acceptRanges", laid_unicode_utf8_acceptRanges), ("unicode/utf8.first", laid_unicode_utf8_first)], narrowed := true }
def FnExactQuotaUsedUptoSaid : Prop := fnExactQuotaUsedUptoRow.holds Tryz.pinned (OpenSpec.upto fnExactQuotaUsedSpec)

/-- 'laws.FnExactTreeText', WHERE WHAT IT READS IS OF BULK AT MOST 1048576: true; the input reads as it did. -/
def fnExactTreeTextUptoRow : OpenClaim := { program := "ytadjkgdlpaddjaagreatdoor", sum := "c3e27d699af850c7852f7cfee25fcfd2cf23e4c2dcc3e667d92e260c4a2f9b61", func := "loop.example/snapshotfiles/laws.FnExactTreeText", spec := "fnExactTreeText", inPlace := ["internal/bytealg.CountString", "internal/bytealg.IndexByteString", "internal/bytealg.IndexString", "slices.overlaps[*loop.example/snapshotfiles/impl.node]", "internal/abi.NoEscape"], unfollowed := true, recurses := true, named := ["unicode/utf8.first", "unicode/utf8.acceptRanges", "internal/bytealg.MaxLen", "internal/strconv.uint64pow10", "math/bits.deBruijn32tab", "math/bits.deBruijn64tab"], apart := false, laid := [("math/bits.deBruijn32tab", laid_math_bits_deBruijn32tab), ("math/bits.deBruijn64tab", laid_math_bits_deBruijn64tab), ("internal/strconv.uint64pow10", laid_internal_strconv_uint64pow10), ("unicode/utf8.acceptRanges", laid_unicode_utf8_acceptRanges), ("unicode/utf8.first", laid_unicode_utf8_first)], narrowed := true }
def FnExactTreeTextUptoSaid : Prop := fnExactTreeTextUptoRow.holds Tryz.pinned (OpenSpec.upto fnExactTreeTextSpec)

/-- 'laws.FnExactSnapRead', WHERE WHAT IT READS IS OF BULK AT MOST 1048576: true; the input reads as it did. -/
def fnExactSnapReadUptoRow : OpenClaim := { program := "ytadjkgdlpaddjaagreatdoor", sum := "c3e27d699af850c7852f7cfee25fcfd2cf23e4c2dcc3e667d92e260c4a2f9b61", func := "loop.example/snapshotfiles/laws.FnExactSnapRead", spec := "fnExactSnapRead", inPlace := ["internal/bytealg.CountString", "internal/bytealg.IndexByteString", "internal/bytealg.IndexString", "slices.overlaps[*loop.example/snapshotfiles/impl.node]", "(*internal/sync.Mutex).Lock", "internal/race.Disable", "sync/atomic.CompareAndSwapInt32", "internal/race.Enable", "internal/race.Acquire", "(*internal/sync.Mutex).lockSlow", "internal/sync.runtime_canSpin", "internal/sync.runtime_doSpin", "internal/sync.throw", "internal/sync.runtime_nanotime", "internal/sync.runtime_SemacquireMutex", "sync/atomic.AddInt32", "(*internal/sync.Mutex).Unlock", "internal/race.ReleaseMerge", "(*internal/sync.Mutex).unlockSlow", "internal/sync.fatal", "internal/sync.runtime_Semrelease"], unfollowed := true, recurses := true, named := ["unicode/utf8.first", "unicode/utf8.acceptRanges", "internal/bytealg.MaxLen"], apart := false, laid := [("unicode/utf8.acceptRanges", laid_unicode_utf8_acceptRanges), ("unicode/utf8.first", laid_unicode_utf8_first)], narrowed := true }
def FnExactSnapReadUptoSaid : Prop := fnExactSnapReadUptoRow.holds Tryz.pinned (OpenSpec.upto fnExactSnapReadSpec)

/-- 'laws.FnExactHistoryOf', WHERE WHAT IT READS IS OF BULK AT MOST 1048576: true; the input reads as it did. -/
def fnExactHistoryOfUptoRow : OpenClaim := { program := "ytadjkgdlpaddjaagreatdoor", sum := "c3e27d699af850c7852f7cfee25fcfd2cf23e4c2dcc3e667d92e260c4a2f9b61", func := "loop.example/snapshotfiles/laws.FnExactHistoryOf", spec := "fnExactHistoryOf", inPlace := ["internal/bytealg.CountString", "internal/bytealg.IndexByteString", "internal/bytealg.IndexString", "slices.overlaps[*loop.example/snapshotfiles/impl.node]"], unfollowed := true, recurses := true, named := ["unicode/utf8.first", "unicode/utf8.acceptRanges", "internal/bytealg.MaxLen"], apart := false, laid := [("unicode/utf8.acceptRanges", laid_unicode_utf8_acceptRanges), ("unicode/utf8.first", laid_unicode_utf8_first)], narrowed := true }
def FnExactHistoryOfUptoSaid : Prop := fnExactHistoryOfUptoRow.holds Tryz.pinned (OpenSpec.upto fnExactHistoryOfSpec)

/-- 'laws.FnExactQuotasAllow', WHERE WHAT IT READS IS OF BULK AT MOST 1048576: true; the input reads as it did. -/
def fnExactQuotasAllowUptoRow : OpenClaim := { program := "ytadjkgdlpaddjaagreatdoor", sum := "c3e27d699af850c7852f7cfee25fcfd2cf23e4c2dcc3e667d92e260c4a2f9b61", func := "loop.example/snapshotfiles/laws.FnExactQuotasAllow", spec := "fnExactQuotasAllow", inPlace := ["internal/bytealg.CountString", "internal/bytealg.IndexByteString", "internal/bytealg.IndexString", "slices.overlaps[*loop.example/snapshotfiles/impl.node]", "internal/reflectlite.TypeOf"], unfollowed := true, recurses := true, named := ["loop.example/snapshotfiles/impl.errBroken", "unicode/utf8.first", "unicode/utf8.acceptRanges", "internal/bytealg.MaxLen"], ifaces := true, apart := false, laid := [("unicode/utf8.acceptRanges", laid_unicode_utf8_acceptRanges), ("loop.example/snapshotfiles/impl.errBroken", laid_loop_example_snapshotfiles_impl_errBroken), ("unicode/utf8.first", laid_unicode_utf8_first)], narrowed := true }
def FnExactQuotasAllowUptoSaid : Prop := fnExactQuotasAllowUptoRow.holds Tryz.pinned (OpenSpec.upto fnExactQuotasAllowSpec)

/-- 'laws.FnExactQuotasOver', WHERE WHAT IT READS IS OF BULK AT MOST 1048576: true; the input reads as it did. -/
def fnExactQuotasOverUptoRow : OpenClaim := { program := "ytadjkgdlpaddjaagreatdoor", sum := "c3e27d699af850c7852f7cfee25fcfd2cf23e4c2dcc3e667d92e260c4a2f9b61", func := "loop.example/snapshotfiles/laws.FnExactQuotasOver", spec := "fnExactQuotasOver", inPlace := ["internal/bytealg.CountString", "internal/bytealg.IndexByteString", "internal/bytealg.IndexString", "slices.overlaps[*loop.example/snapshotfiles/impl.node]", "internal/reflectlite.TypeOf"], unfollowed := true, recurses := true, named := ["loop.example/snapshotfiles/impl.errBroken", "unicode/utf8.first", "unicode/utf8.acceptRanges", "internal/bytealg.MaxLen"], ifaces := true, apart := false, laid := [("unicode/utf8.acceptRanges", laid_unicode_utf8_acceptRanges), ("loop.example/snapshotfiles/impl.errBroken", laid_loop_example_snapshotfiles_impl_errBroken), ("unicode/utf8.first", laid_unicode_utf8_first)], narrowed := true }
def FnExactQuotasOverUptoSaid : Prop := fnExactQuotasOverUptoRow.holds Tryz.pinned (OpenSpec.upto fnExactQuotasOverSpec)

/-- 'laws.FnExactDiskText', WHERE WHAT IT READS IS OF BULK AT MOST 1048576: true; the input reads as it did. -/
def fnExactDiskTextUptoRow : OpenClaim := { program := "ytadjkgdlpaddjaagreatdoor", sum := "c3e27d699af850c7852f7cfee25fcfd2cf23e4c2dcc3e667d92e260c4a2f9b61", func := "loop.example/snapshotfiles/laws.FnExactDiskText", spec := "fnExactDiskText", inPlace := ["internal/bytealg.CountString", "internal/bytealg.IndexByteString", "internal/bytealg.IndexString", "slices.overlaps[*loop.example/snapshotfiles/impl.node]", "internal/abi.NoEscape"], unfollowed := true, recurses := true, named := ["unicode/utf8.first", "unicode/utf8.acceptRanges", "internal/bytealg.MaxLen", "internal/strconv.uint64pow10", "math/bits.deBruijn32tab", "math/bits.deBruijn64tab"], apart := false, laid := [("math/bits.deBruijn32tab", laid_math_bits_deBruijn32tab), ("math/bits.deBruijn64tab", laid_math_bits_deBruijn64tab), ("internal/strconv.uint64pow10", laid_internal_strconv_uint64pow10), ("unicode/utf8.acceptRanges", laid_unicode_utf8_acceptRanges), ("unicode/utf8.first", laid_unicode_utf8_first)], narrowed := true }
def FnExactDiskTextUptoSaid : Prop := fnExactDiskTextUptoRow.holds Tryz.pinned (OpenSpec.upto fnExactDiskTextSpec)

/-- 'laws.FnExactVolumeDir', WHERE WHAT IT READS IS OF BULK AT MOST 1048576: true; the input reads as it did. -/
def fnExactVolumeDirUptoRow : OpenClaim := { program := "ytadjkgdlpaddjaagreatdoor", sum := "c3e27d699af850c7852f7cfee25fcfd2cf23e4c2dcc3e667d92e260c4a2f9b61", func := "loop.example/snapshotfiles/laws.FnExactVolumeDir", spec := "fnExactVolumeDir", inPlace := ["internal/bytealg.CountString", "internal/bytealg.IndexByteString", "internal/bytealg.IndexString", "slices.overlaps[*loop.example/snapshotfiles/impl.node]"], unfollowed := true, recurses := true, named := ["unicode/utf8.first", "unicode/utf8.acceptRanges", "internal/bytealg.MaxLen"], apart := false, laid := [("unicode/utf8.acceptRanges", laid_unicode_utf8_acceptRanges), ("unicode/utf8.first", laid_unicode_utf8_first)], narrowed := true }
def FnExactVolumeDirUptoSaid : Prop := fnExactVolumeDirUptoRow.holds Tryz.pinned (OpenSpec.upto fnExactVolumeDirSpec)

/-- 'laws.FnExactVolumeDrop', WHERE WHAT IT READS IS OF BULK AT MOST 1048576: true; the input reads as it did. -/
def fnExactVolumeDropUptoRow : OpenClaim := { program := "ytadjkgdlpaddjaagreatdoor", sum := "c3e27d699af850c7852f7cfee25fcfd2cf23e4c2dcc3e667d92e260c4a2f9b61", func := "loop.example/snapshotfiles/laws.FnExactVolumeDrop", spec := "fnExactVolumeDrop", inPlace := ["internal/bytealg.CountString", "internal/bytealg.IndexByteString", "internal/bytealg.IndexString", "slices.overlaps[*loop.example/snapshotfiles/impl.node]"], unfollowed := true, recurses := true, named := ["unicode/utf8.first", "unicode/utf8.acceptRanges", "internal/bytealg.MaxLen"], apart := false, laid := [("unicode/utf8.acceptRanges", laid_unicode_utf8_acceptRanges), ("unicode/utf8.first", laid_unicode_utf8_first)], narrowed := true }
def FnExactVolumeDropUptoSaid : Prop := fnExactVolumeDropUptoRow.holds Tryz.pinned (OpenSpec.upto fnExactVolumeDropSpec)

/-- 'laws.FnExactCountShared', WHERE WHAT IT READS IS OF BULK AT MOST 1048576: true; the input reads as it did. -/
def fnExactCountSharedUptoRow : OpenClaim := { program := "ytadjkgdlpaddjaagreatdoor", sum := "c3e27d699af850c7852f7cfee25fcfd2cf23e4c2dcc3e667d92e260c4a2f9b61", func := "loop.example/snapshotfiles/laws.FnExactCountShared", spec := "fnExactCountShared", inPlace := ["internal/bytealg.CountString", "internal/bytealg.IndexByteString", "internal/bytealg.IndexString", "slices.overlaps[*loop.example/snapshotfiles/impl.node]", "internal/reflectlite.ValueOf", "(internal/reflectlite.Value).Type", "(internal/reflectlite.Value).IsNil", "internal/reflectlite.TypeOf", "(internal/reflectlite.Value).Elem", "(internal/reflectlite.Value).Set"], unfollowed := true, recurses := true, named := ["unicode/utf8.first", "unicode/utf8.acceptRanges", "internal/bytealg.MaxLen", "errors.errorType"], apart := false, laid := [("unicode/utf8.acceptRanges", laid_unicode_utf8_acceptRanges), ("errors.errorType", laid_errors_errorType), ("unicode/utf8.first", laid_unicode_utf8_first)], narrowed := true }
def FnExactCountSharedUptoSaid : Prop := fnExactCountSharedUptoRow.holds Tryz.pinned (OpenSpec.upto fnExactCountSharedSpec)

/-- 'laws.FnExactCountOnly', WHERE WHAT IT READS IS OF BULK AT MOST 1048576: true; the input reads as it did. -/
def fnExactCountOnlyUptoRow : OpenClaim := { program := "ytadjkgdlpaddjaagreatdoor", sum := "c3e27d699af850c7852f7cfee25fcfd2cf23e4c2dcc3e667d92e260c4a2f9b61", func := "loop.example/snapshotfiles/laws.FnExactCountOnly", spec := "fnExactCountOnly", inPlace := ["internal/bytealg.CountString", "internal/bytealg.IndexByteString", "internal/bytealg.IndexString", "slices.overlaps[*loop.example/snapshotfiles/impl.node]", "internal/reflectlite.ValueOf", "(internal/reflectlite.Value).Type", "(internal/reflectlite.Value).IsNil", "internal/reflectlite.TypeOf", "(internal/reflectlite.Value).Elem", "(internal/reflectlite.Value).Set"], unfollowed := true, recurses := true, named := ["unicode/utf8.first", "unicode/utf8.acceptRanges", "internal/bytealg.MaxLen", "errors.errorType"], apart := false, laid := [("unicode/utf8.acceptRanges", laid_unicode_utf8_acceptRanges), ("errors.errorType", laid_errors_errorType), ("unicode/utf8.first", laid_unicode_utf8_first)], narrowed := true }
def FnExactCountOnlyUptoSaid : Prop := fnExactCountOnlyUptoRow.holds Tryz.pinned (OpenSpec.upto fnExactCountOnlySpec)

/-- 'laws.FnExactCountBytes', WHERE WHAT IT READS IS OF BULK AT MOST 1048576: true; the input reads as it did. -/
def fnExactCountBytesUptoRow : OpenClaim := { program := "ytadjkgdlpaddjaagreatdoor", sum := "c3e27d699af850c7852f7cfee25fcfd2cf23e4c2dcc3e667d92e260c4a2f9b61", func := "loop.example/snapshotfiles/laws.FnExactCountBytes", spec := "fnExactCountBytes", inPlace := ["internal/bytealg.CountString", "internal/bytealg.IndexByteString", "internal/bytealg.IndexString", "slices.overlaps[*loop.example/snapshotfiles/impl.node]", "internal/reflectlite.ValueOf", "(internal/reflectlite.Value).Type", "(internal/reflectlite.Value).IsNil", "internal/reflectlite.TypeOf", "(internal/reflectlite.Value).Elem", "(internal/reflectlite.Value).Set"], unfollowed := true, recurses := true, named := ["unicode/utf8.first", "unicode/utf8.acceptRanges", "internal/bytealg.MaxLen", "errors.errorType"], apart := false, laid := [("unicode/utf8.acceptRanges", laid_unicode_utf8_acceptRanges), ("errors.errorType", laid_errors_errorType), ("unicode/utf8.first", laid_unicode_utf8_first)], narrowed := true }
def FnExactCountBytesUptoSaid : Prop := fnExactCountBytesUptoRow.holds Tryz.pinned (OpenSpec.upto fnExactCountBytesSpec)

/-- 'laws.FnExactStreamOf', WHERE WHAT IT READS IS OF BULK AT MOST 1048576: true; the input reads as it did. -/
def fnExactStreamOfUptoRow : OpenClaim := { program := "ytadjkgdlpaddjaagreatdoor", sum := "c3e27d699af850c7852f7cfee25fcfd2cf23e4c2dcc3e667d92e260c4a2f9b61", func := "loop.example/snapshotfiles/laws.FnExactStreamOf", spec := "fnExactStreamOf", inPlace := ["internal/bytealg.CountString", "internal/bytealg.IndexByteString", "internal/bytealg.IndexString", "slices.overlaps[*loop.example/snapshotfiles/impl.node]"], unfollowed := true, recurses := true, named := ["unicode/utf8.first", "unicode/utf8.acceptRanges", "internal/bytealg.MaxLen"], apart := false, laid := [("unicode/utf8.acceptRanges", laid_unicode_utf8_acceptRanges), ("unicode/utf8.first", laid_unicode_utf8_first)], narrowed := true }
def FnExactStreamOfUptoSaid : Prop := fnExactStreamOfUptoRow.holds Tryz.pinned (OpenSpec.upto fnExactStreamOfSpec)

end Rows
end Go.Proofs.YtadjkgdlpaddjaaGreatDoor
