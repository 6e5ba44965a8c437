/-
  NARROWER THAN 'FOR EVERY INPUT', by the rows' own cells (each row's printed sentence says how): FnLast: laid · FnOver: ifaces, laid · FnAllowLess: ifaces, laid · FnTreeText: laid · FnTreeTextLines: laid · FnDiskText: laid · FnVolumeWriteOthers: laid · FnVolumeWriteTwice: laid.
  DERIVED. THE GIVEN ROWS OF THIS SEAT. 8 by the template 'for every input the law returns true; each argument reads behind the call as it read before'; 0 by the template 'total and deterministic' (their statements: YtoljibhdakacjaaGreatDoorTotals.lean).
  GIVEN WITH THE SEED: the statements are not yours to turn. If you find one false, say at which input.
  Laid BY PROGRAM, IN A SANDBOX (cutbox-rows.mjs): the forced cells as the released guide's own fill.sh prints them over the translation 92baea3f29e2ea2e… (all of the seat's roots in one cut). By AI agents, Wed Nov 11 2026. No macro, syntax, notation, axiom, sorry.
-/
import Derived.Test.YtoljibhdakacjaaGreatDoorChecked
import GoSem.PinnedTables
import GoSem.Claim
import GoSem.ClaimJoined
import GoSem.ClaimMapViews
import Derived.JoinedTies
import Derived.KernelRfl
namespace Go.Proofs.YtoljibhdakacjaaGreatDoor
/- THE CELL 'sum', in the pinned program and in every row, IS THE sha256 OF THE DUMP (.gsa) THAT YtoljibhdakacjaaGreatDoorProg.lean LOADS. Nothing in Lean hashes anything: it is a label: what it is worth is what the hold of that sum in a sandbox is worth. -/
noncomputable def Tryz.pinned : Pinned := { name := "ytoljibhdakacjaagreatdoor", sum := "92baea3f29e2ea2ecbb6afe433daac1b3516e61ab11834d55bc9c5e5781e5173", checked := Tryz.checked }
namespace Rows
def none {H : Type} : Left H := { results := [], args := [] }

/- WHAT THE LISTED PACKAGE-LEVEL VARIABLES READ AS WHEN THE CALL BEGINS. Each datum BY PROGRAM (the guide's laid-datum.mjs) off the statement by which the dump's own 'gosem.cut.vars' lays the variable. In a bare row this is a premise. The card (YtoljibhdakacjaaGreatDoorCards.lean) ties it to the program's text. -/
def laid_unicode_utf8_acceptRanges {H : Type} : DataW H := .agg [.agg [.lit (.int .u8 128), .lit (.int .u8 191)], .agg [.lit (.int .u8 160), .lit (.int .u8 191)], .agg [.lit (.int .u8 128), .lit (.int .u8 159)], .agg [.lit (.int .u8 144), .lit (.int .u8 191)], .agg [.lit (.int .u8 128), .lit (.int .u8 143)], .agg [.lit (.int .u8 0), .lit (.int .u8 0)], .agg [.lit (.int .u8 0), .lit (.int .u8 0)], .agg [.lit (.int .u8 0), .lit (.int .u8 0)], .agg [.lit (.int .u8 0), .lit (.int .u8 0)], .agg [.lit (.int .u8 0), .lit (.int .u8 0)], .agg [.lit (.int .u8 0), .lit (.int .u8 0)], .agg [.lit (.int .u8 0), .lit (.int .u8 0)], .agg [.lit (.int .u8 0), .lit (.int .u8 0)], .agg [.lit (.int .u8 0), .lit (.int .u8 0)], .agg [.lit (.int .u8 0), .lit (.int .u8 0)], .agg [.lit (.int .u8 0), .lit (.int .u8 0)]]
/-- One of Go's own tables, pinned by name: the form's constant. -/
def laid_unicode_utf8_first : DataW Unit := Go.Pinned.utf8First
def laid_loop_example_snapshotfiles_impl_errBroken {H : Type} : DataW H := .iface "*errors.errorString" (.ptr (.agg [.lit (.string [113, 117, 111, 116, 97, 32, 105, 115, 32, 98, 114, 111, 107, 101, 110])]))
def laid_math_bits_deBruijn32tab {H : Type} : DataW H := .agg [.lit (.int .u8 0), .lit (.int .u8 1), .lit (.int .u8 28), .lit (.int .u8 2), .lit (.int .u8 29), .lit (.int .u8 14), .lit (.int .u8 24), .lit (.int .u8 3), .lit (.int .u8 30), .lit (.int .u8 22), .lit (.int .u8 20), .lit (.int .u8 15), .lit (.int .u8 25), .lit (.int .u8 17), .lit (.int .u8 4), .lit (.int .u8 8), .lit (.int .u8 31), .lit (.int .u8 27), .lit (.int .u8 13), .lit (.int .u8 23), .lit (.int .u8 21), .lit (.int .u8 19), .lit (.int .u8 16), .lit (.int .u8 7), .lit (.int .u8 26), .lit (.int .u8 12), .lit (.int .u8 18), .lit (.int .u8 6), .lit (.int .u8 11), .lit (.int .u8 5), .lit (.int .u8 10), .lit (.int .u8 9)]
def laid_math_bits_deBruijn64tab {H : Type} : DataW H := .agg [.lit (.int .u8 0), .lit (.int .u8 1), .lit (.int .u8 56), .lit (.int .u8 2), .lit (.int .u8 57), .lit (.int .u8 49), .lit (.int .u8 28), .lit (.int .u8 3), .lit (.int .u8 61), .lit (.int .u8 58), .lit (.int .u8 42), .lit (.int .u8 50), .lit (.int .u8 38), .lit (.int .u8 29), .lit (.int .u8 17), .lit (.int .u8 4), .lit (.int .u8 62), .lit (.int .u8 47), .lit (.int .u8 59), .lit (.int .u8 36), .lit (.int .u8 45), .lit (.int .u8 43), .lit (.int .u8 51), .lit (.int .u8 22), .lit (.int .u8 53), .lit (.int .u8 39), .lit (.int .u8 33), .lit (.int .u8 30), .lit (.int .u8 24), .lit (.int .u8 18), .lit (.int .u8 12), .lit (.int .u8 5), .lit (.int .u8 63), .lit (.int .u8 55), .lit (.int .u8 48), .lit (.int .u8 27), .lit (.int .u8 60), .lit (.int .u8 41), .lit (.int .u8 37), .lit (.int .u8 16), .lit (.int .u8 46), .lit (.int .u8 35), .lit (.int .u8 44), .lit (.int .u8 21), .lit (.int .u8 52), .lit (.int .u8 32), .lit (.int .u8 23), .lit (.int .u8 11), .lit (.int .u8 54), .lit (.int .u8 26), .lit (.int .u8 40), .lit (.int .u8 15), .lit (.int .u8 34), .lit (.int .u8 20), .lit (.int .u8 31), .lit (.int .u8 10), .lit (.int .u8 25), .lit (.int .u8 14), .lit (.int .u8 19), .lit (.int .u8 9), .lit (.int .u8 13), .lit (.int .u8 8), .lit (.int .u8 7), .lit (.int .u8 6)]
def laid_internal_strconv_uint64pow10 {H : Type} : DataW H := .agg [.lit (.int .u64 1), .lit (.int .u64 10), .lit (.int .u64 100), .lit (.int .u64 1000), .lit (.int .u64 10000), .lit (.int .u64 100000), .lit (.int .u64 1000000), .lit (.int .u64 10000000), .lit (.int .u64 100000000), .lit (.int .u64 1000000000), .lit (.int .u64 10000000000), .lit (.int .u64 100000000000), .lit (.int .u64 1000000000000), .lit (.int .u64 10000000000000), .lit (.int .u64 100000000000000), .lit (.int .u64 1000000000000000), .lit (.int .u64 10000000000000000), .lit (.int .u64 100000000000000000), .lit (.int .u64 1000000000000000000), .lit (.int .u64 10000000000000000000)]

/-- 'laws.FnLast': WHATEVER THE INPUT: true; the input reads as it did. -/
def fnLastSpec : ChangeSpec := { name := "fnLast", fn := fun _ => fun
  | [d] => { results := [.lit (.bool true)], args := [d] }
  | _ => none }
def fnLastRow : OpenClaim := { program := "ytoljibhdakacjaagreatdoor", sum := "92baea3f29e2ea2ecbb6afe433daac1b3516e61ab11834d55bc9c5e5781e5173", func := "loop.example/snapshotfiles/laws.FnLast", spec := "fnLast", inPlace := ["internal/bytealg.CountString", "internal/bytealg.IndexByteString", "internal/bytealg.IndexString", "slices.overlaps[*loop.example/snapshotfiles/impl.node]", "(*internal/sync.Mutex).Lock", "internal/race.Disable", "sync/atomic.CompareAndSwapInt32", "internal/race.Enable", "internal/race.Acquire", "(*internal/sync.Mutex).lockSlow", "internal/sync.runtime_canSpin", "internal/sync.runtime_doSpin", "internal/sync.throw", "internal/sync.runtime_nanotime", "internal/sync.runtime_SemacquireMutex", "sync/atomic.AddInt32", "(*internal/sync.Mutex).Unlock", "internal/race.ReleaseMerge", "(*internal/sync.Mutex).unlockSlow", "internal/sync.fatal", "internal/sync.runtime_Semrelease"], unfollowed := true, recurses := true, named := ["unicode/utf8.first", "unicode/utf8.acceptRanges", "internal/bytealg.MaxLen"], apart := false, laid := [("unicode/utf8.acceptRanges", laid_unicode_utf8_acceptRanges), ("unicode/utf8.first", laid_unicode_utf8_first)] }
def FnLastSaid : Prop := fnLastRow.holds Tryz.pinned (OpenSpec.ofChange fnLastSpec)

/-- ITS FALSE NEIGHBOUR: 'it returns false'. Refute it at one input. -/
def fnLastWrong : ChangeSpec := { name := "fnLast", fn := fun _ => fun
  | [d] => { results := [.lit (.bool false)], args := [d] }
  | _ => none }
def FnLastWrongFalsely : Prop := fnLastRow.holds Tryz.pinned (OpenSpec.ofChange fnLastWrong)

/-- 'laws.FnOver': WHATEVER THE INPUT: true; the input reads as it did. -/
def fnOverSpec : ChangeSpec := { name := "fnOver", vars := ["loop.example/snapshotfiles/impl.errBroken"], fn := fun _ => fun
  | [d, g1] => { results := [.lit (.bool true)], args := [d], vars := [g1] }
  | _ => none }
def fnOverRow : OpenClaim := { program := "ytoljibhdakacjaagreatdoor", sum := "92baea3f29e2ea2ecbb6afe433daac1b3516e61ab11834d55bc9c5e5781e5173", func := "loop.example/snapshotfiles/laws.FnOver", spec := "fnOver", inPlace := ["internal/bytealg.CountString", "internal/bytealg.IndexByteString", "internal/bytealg.IndexString", "slices.overlaps[*loop.example/snapshotfiles/impl.node]", "internal/reflectlite.TypeOf"], unfollowed := true, recurses := true, named := ["loop.example/snapshotfiles/impl.errBroken", "unicode/utf8.first", "unicode/utf8.acceptRanges", "internal/bytealg.MaxLen"], ifaces := true, apart := false, laid := [("unicode/utf8.acceptRanges", laid_unicode_utf8_acceptRanges), ("loop.example/snapshotfiles/impl.errBroken", laid_loop_example_snapshotfiles_impl_errBroken), ("unicode/utf8.first", laid_unicode_utf8_first)] }
def FnOverSaid : Prop := fnOverRow.holds Tryz.pinned (OpenSpec.ofChange fnOverSpec)

/-- ITS FALSE NEIGHBOUR: 'it returns false'. Refute it at one input. -/
def fnOverWrong : ChangeSpec := { name := "fnOver", vars := ["loop.example/snapshotfiles/impl.errBroken"], fn := fun _ => fun
  | [d, g1] => { results := [.lit (.bool false)], args := [d], vars := [g1] }
  | _ => none }
def FnOverWrongFalsely : Prop := fnOverRow.holds Tryz.pinned (OpenSpec.ofChange fnOverWrong)

/-- 'laws.FnAllowLess': WHATEVER THE INPUT: true; the input reads as it did. -/
def fnAllowLessSpec : ChangeSpec := { name := "fnAllowLess", vars := ["loop.example/snapshotfiles/impl.errBroken"], fn := fun _ => fun
  | [d1, d2, g1] => { results := [.lit (.bool true)], args := [d1, d2], vars := [g1] }
  | _ => none }
def fnAllowLessRow : OpenClaim := { program := "ytoljibhdakacjaagreatdoor", sum := "92baea3f29e2ea2ecbb6afe433daac1b3516e61ab11834d55bc9c5e5781e5173", func := "loop.example/snapshotfiles/laws.FnAllowLess", spec := "fnAllowLess", inPlace := ["internal/bytealg.CountString", "internal/bytealg.IndexByteString", "internal/bytealg.IndexString", "slices.overlaps[*loop.example/snapshotfiles/impl.node]", "internal/reflectlite.TypeOf"], unfollowed := true, recurses := true, named := ["loop.example/snapshotfiles/impl.errBroken", "unicode/utf8.first", "unicode/utf8.acceptRanges", "internal/bytealg.MaxLen"], ifaces := true, apart := false, laid := [("unicode/utf8.acceptRanges", laid_unicode_utf8_acceptRanges), ("loop.example/snapshotfiles/impl.errBroken", laid_loop_example_snapshotfiles_impl_errBroken), ("unicode/utf8.first", laid_unicode_utf8_first)] }
def FnAllowLessSaid : Prop := fnAllowLessRow.holds Tryz.pinned (OpenSpec.ofChange fnAllowLessSpec)

/-- ITS FALSE NEIGHBOUR: 'it returns false'. Refute it at one input. -/
def fnAllowLessWrong : ChangeSpec := { name := "fnAllowLess", vars := ["loop.example/snapshotfiles/impl.errBroken"], fn := fun _ => fun
  | [d1, d2, g1] => { results := [.lit (.bool false)], args := [d1, d2], vars := [g1] }
  | _ => none }
def FnAllowLessWrongFalsely : Prop := fnAllowLessRow.holds Tryz.pinned (OpenSpec.ofChange fnAllowLessWrong)

/-- 'laws.FnTreeText': WHATEVER THE INPUT: true; the input reads as it did. -/
def fnTreeTextSpec : ChangeSpec := { name := "fnTreeText", fn := fun _ => fun
  | [d] => { results := [.lit (.bool true)], args := [d] }
  | _ => none }
def fnTreeTextRow : OpenClaim := { program := "ytoljibhdakacjaagreatdoor", sum := "92baea3f29e2ea2ecbb6afe433daac1b3516e61ab11834d55bc9c5e5781e5173", func := "loop.example/snapshotfiles/laws.FnTreeText", spec := "fnTreeText", inPlace := ["internal/bytealg.CountString", "internal/bytealg.IndexByteString", "internal/bytealg.IndexString", "slices.overlaps[*loop.example/snapshotfiles/impl.node]", "internal/abi.NoEscape"], unfollowed := true, recurses := true, named := ["unicode/utf8.first", "unicode/utf8.acceptRanges", "internal/bytealg.MaxLen", "internal/strconv.uint64pow10", "math/bits.deBruijn32tab", "math/bits.deBruijn64tab"], apart := false, laid := [("math/bits.deBruijn32tab", laid_math_bits_deBruijn32tab), ("math/bits.deBruijn64tab", laid_math_bits_deBruijn64tab), ("internal/strconv.uint64pow10", laid_internal_strconv_uint64pow10), ("unicode/utf8.acceptRanges", laid_unicode_utf8_acceptRanges), ("unicode/utf8.first", laid_unicode_utf8_first)] }
def FnTreeTextSaid : Prop := fnTreeTextRow.holds Tryz.pinned (OpenSpec.ofChange fnTreeTextSpec)

/-- ITS FALSE NEIGHBOUR: 'it returns false'. Refute it at one input. -/
def fnTreeTextWrong : ChangeSpec := { name := "fnTreeText", fn := fun _ => fun
  | [d] => { results := [.lit (.bool false)], args := [d] }
  | _ => none }
def FnTreeTextWrongFalsely : Prop := fnTreeTextRow.holds Tryz.pinned (OpenSpec.ofChange fnTreeTextWrong)

/-- 'laws.FnTreeTextLines': WHATEVER THE INPUT: true; the input reads as it did. -/
def fnTreeTextLinesSpec : ChangeSpec := { name := "fnTreeTextLines", fn := fun _ => fun
  | [d] => { results := [.lit (.bool true)], args := [d] }
  | _ => none }
def fnTreeTextLinesRow : OpenClaim := { program := "ytoljibhdakacjaagreatdoor", sum := "92baea3f29e2ea2ecbb6afe433daac1b3516e61ab11834d55bc9c5e5781e5173", func := "loop.example/snapshotfiles/laws.FnTreeTextLines", spec := "fnTreeTextLines", inPlace := ["internal/bytealg.CountString", "internal/bytealg.IndexByteString", "internal/bytealg.IndexString", "slices.overlaps[*loop.example/snapshotfiles/impl.node]", "internal/abi.NoEscape"], unfollowed := true, recurses := true, named := ["unicode/utf8.first", "unicode/utf8.acceptRanges", "internal/bytealg.MaxLen", "internal/strconv.uint64pow10", "math/bits.deBruijn32tab", "math/bits.deBruijn64tab"], apart := false, laid := [("math/bits.deBruijn32tab", laid_math_bits_deBruijn32tab), ("math/bits.deBruijn64tab", laid_math_bits_deBruijn64tab), ("internal/strconv.uint64pow10", laid_internal_strconv_uint64pow10), ("unicode/utf8.acceptRanges", laid_unicode_utf8_acceptRanges), ("unicode/utf8.first", laid_unicode_utf8_first)] }
def FnTreeTextLinesSaid : Prop := fnTreeTextLinesRow.holds Tryz.pinned (OpenSpec.ofChange fnTreeTextLinesSpec)

/-- ITS FALSE NEIGHBOUR: 'it returns false'. Refute it at one input. -/
def fnTreeTextLinesWrong : ChangeSpec := { name := "fnTreeTextLines", fn := fun _ => fun
  | [d] => { results := [.lit (.bool false)], args := [d] }
  | _ => none }
def FnTreeTextLinesWrongFalsely : Prop := fnTreeTextLinesRow.holds Tryz.pinned (OpenSpec.ofChange fnTreeTextLinesWrong)

/-- 'laws.FnDiskText': WHATEVER THE INPUT: true; the input reads as it did. -/
def fnDiskTextSpec : ChangeSpec := { name := "fnDiskText", fn := fun _ => fun
  | [d] => { results := [.lit (.bool true)], args := [d] }
  | _ => none }
def fnDiskTextRow : OpenClaim := { program := "ytoljibhdakacjaagreatdoor", sum := "92baea3f29e2ea2ecbb6afe433daac1b3516e61ab11834d55bc9c5e5781e5173", func := "loop.example/snapshotfiles/laws.FnDiskText", spec := "fnDiskText", inPlace := ["internal/bytealg.CountString", "internal/bytealg.IndexByteString", "internal/bytealg.IndexString", "slices.overlaps[*loop.example/snapshotfiles/impl.node]", "internal/abi.NoEscape"], unfollowed := true, recurses := true, named := ["unicode/utf8.first", "unicode/utf8.acceptRanges", "internal/bytealg.MaxLen", "internal/strconv.uint64pow10", "math/bits.deBruijn32tab", "math/bits.deBruijn64tab"], apart := false, laid := [("math/bits.deBruijn32tab", laid_math_bits_deBruijn32tab), ("math/bits.deBruijn64tab", laid_math_bits_deBruijn64tab), ("internal/strconv.uint64pow10", laid_internal_strconv_uint64pow10), ("unicode/utf8.acceptRanges", laid_unicode_utf8_acceptRanges), ("unicode/utf8.first", laid_unicode_utf8_first)] }
def FnDiskTextSaid : Prop := fnDiskTextRow.holds Tryz.pinned (OpenSpec.ofChange fnDiskTextSpec)

/-- ITS FALSE NEIGHBOUR: 'it returns false'. Refute it at one input. -/
def fnDiskTextWrong : ChangeSpec := { name := "fnDiskText", fn := fun _ => fun
  | [d] => { results := [.lit (.bool false)], args := [d] }
  | _ => none }
def FnDiskTextWrongFalsely : Prop := fnDiskTextRow.holds Tryz.pinned (OpenSpec.ofChange fnDiskTextWrong)

/-- 'laws.FnVolumeWriteOthers': WHATEVER THE INPUT: true; the input reads as it did. -/
def fnVolumeWriteOthersSpec : ChangeSpec := { name := "fnVolumeWriteOthers", fn := fun _ => fun
  | [d] => { results := [.lit (.bool true)], args := [d] }
  | _ => none }
def fnVolumeWriteOthersRow : OpenClaim := { program := "ytoljibhdakacjaagreatdoor", sum := "92baea3f29e2ea2ecbb6afe433daac1b3516e61ab11834d55bc9c5e5781e5173", func := "loop.example/snapshotfiles/laws.FnVolumeWriteOthers", spec := "fnVolumeWriteOthers", inPlace := ["internal/bytealg.CountString", "internal/bytealg.IndexByteString", "internal/bytealg.IndexString", "slices.overlaps[*loop.example/snapshotfiles/impl.node]"], unfollowed := true, recurses := true, named := ["unicode/utf8.first", "unicode/utf8.acceptRanges", "internal/bytealg.MaxLen"], apart := false, laid := [("unicode/utf8.acceptRanges", laid_unicode_utf8_acceptRanges), ("unicode/utf8.first", laid_unicode_utf8_first)] }
def FnVolumeWriteOthersSaid : Prop := fnVolumeWriteOthersRow.holds Tryz.pinned (OpenSpec.ofChange fnVolumeWriteOthersSpec)

/-- ITS FALSE NEIGHBOUR: 'it returns false'. Refute it at one input. -/
def fnVolumeWriteOthersWrong : ChangeSpec := { name := "fnVolumeWriteOthers", fn := fun _ => fun
  | [d] => { results := [.lit (.bool false)], args := [d] }
  | _ => none }
def FnVolumeWriteOthersWrongFalsely : Prop := fnVolumeWriteOthersRow.holds Tryz.pinned (OpenSpec.ofChange fnVolumeWriteOthersWrong)

/-- 'laws.FnVolumeWriteTwice': WHATEVER THE INPUT: true; the input reads as it did. -/
def fnVolumeWriteTwiceSpec : ChangeSpec := { name := "fnVolumeWriteTwice", fn := fun _ => fun
  | [d] => { results := [.lit (.bool true)], args := [d] }
  | _ => none }
def fnVolumeWriteTwiceRow : OpenClaim := { program := "ytoljibhdakacjaagreatdoor", sum := "92baea3f29e2ea2ecbb6afe433daac1b3516e61ab11834d55bc9c5e5781e5173", func := "loop.example/snapshotfiles/laws.FnVolumeWriteTwice", spec := "fnVolumeWriteTwice", inPlace := ["internal/bytealg.CountString", "internal/bytealg.IndexByteString", "internal/bytealg.IndexString", "slices.overlaps[*loop.example/snapshotfiles/impl.node]"], unfollowed := true, recurses := true, named := ["unicode/utf8.first", "unicode/utf8.acceptRanges", "internal/bytealg.MaxLen"], apart := false, laid := [("unicode/utf8.acceptRanges", laid_unicode_utf8_acceptRanges), ("unicode/utf8.first", laid_unicode_utf8_first)] }
def FnVolumeWriteTwiceSaid : Prop := fnVolumeWriteTwiceRow.holds Tryz.pinned (OpenSpec.ofChange fnVolumeWriteTwiceSpec)

/-- ITS FALSE NEIGHBOUR: 'it returns false'. Refute it at one input. -/
def fnVolumeWriteTwiceWrong : ChangeSpec := { name := "fnVolumeWriteTwice", fn := fun _ => fun
  | [d] => { results := [.lit (.bool false)], args := [d] }
  | _ => none }
def FnVolumeWriteTwiceWrongFalsely : Prop := fnVolumeWriteTwiceRow.holds Tryz.pinned (OpenSpec.ofChange fnVolumeWriteTwiceWrong)

/- THE SECOND FORM. 'bulk': how many values and letters a reading holds, each counted each time it is reached (what is shared counts as often as it is met; a slice's spare places count too). A statement '..UptoSaid' is the law's where the arguments, and the package variables that the reading takes, are together of bulk at most 1048576: NARROWER than '..Said'. Prove '..Said' where nothing that the law and all that it calls make is longer than what came in: it says more and counts as full. Else prove '..UptoSaid'. A law counts once. -/
mutual
def uptoBulk {H : Type} : DataW H → Nat
  | .lit (.string bytes) => bytes.length + 1
  | .lit _ => 1
  | .nil => 1
  | .ptr d => uptoBulk d + 1
  | .slice elems spare => uptoBulkAll elems + uptoBulkAll spare + 1
  | .agg parts => uptoBulkAll parts + 1
  | .iface _ d => uptoBulk d + 1
  | .map entries => uptoBulkEntries entries + 1
  | .held _ => 1
def uptoBulkAll {H : Type} : List (DataW H) → Nat
  | [] => 0
  | d :: r => uptoBulk d + uptoBulkAll r
def uptoBulkEntries {H : Type} : List (Lit × DataW H) → Nat
  | [] => 0
  | x :: r => uptoBulkEntry x + uptoBulkEntries r
def uptoBulkEntry {H : Type} : Lit × DataW H → Nat
  | (.string bytes, d) => bytes.length + uptoBulk d + 1
  | (_, d) => uptoBulk d + 1
 end
def uptoSmall : (H : Type) → List (DataW H) → Bool := fun _ ds => decide (uptoBulkAll ds ≤ 1048576)
def OpenSpec.upto (s : _root_.Go.ChangeSpec) : _root_.Go.OpenSpec := { _root_.Go.OpenSpec.ofChange s with cond := some uptoSmall }

/-- 'laws.FnLast', WHERE WHAT IT READS IS OF BULK AT MOST 1048576: true; the input reads as it did. -/
def fnLastUptoRow : OpenClaim := { program := "ytoljibhdakacjaagreatdoor", sum := "92baea3f29e2ea2ecbb6afe433daac1b3516e61ab11834d55bc9c5e5781e5173", func := "loop.example/snapshotfiles/laws.FnLast", spec := "fnLast", inPlace := ["internal/bytealg.CountString", "internal/bytealg.IndexByteString", "internal/bytealg.IndexString", "slices.overlaps[*loop.example/snapshotfiles/impl.node]", "(*internal/sync.Mutex).Lock", "internal/race.Disable", "sync/atomic.CompareAndSwapInt32", "internal/race.Enable", "internal/race.Acquire", "(*internal/sync.Mutex).lockSlow", "internal/sync.runtime_canSpin", "internal/sync.runtime_doSpin", "internal/sync.throw", "internal/sync.runtime_nanotime", "internal/sync.runtime_SemacquireMutex", "sync/atomic.AddInt32", "(*internal/sync.Mutex).Unlock", "internal/race.ReleaseMerge", "(*internal/sync.Mutex).unlockSlow", "internal/sync.fatal", "internal/sync.runtime_Semrelease"], unfollowed := true, recurses := true, named := ["unicode/utf8.first", "unicode/utf8.acceptRanges", "internal/bytealg.MaxLen"], apart := false, laid := [("unicode/utf8.acceptRanges", laid_unicode_utf8_acceptRanges), ("unicode/utf8.first", laid_unicode_utf8_first)], narrowed := true }
def FnLastUptoSaid : Prop := fnLastUptoRow.holds Tryz.pinned (OpenSpec.upto fnLastSpec)

/-- 'laws.FnOver', WHERE WHAT IT READS IS OF BULK AT MOST 1048576: true; the input reads as it did. -/
def fnOverUptoRow : OpenClaim := { program := "ytoljibhdakacjaagreatdoor", sum := "92baea3f29e2ea2ecbb6afe433daac1b3516e61ab11834d55bc9c5e5781e5173", func := "loop.example/snapshotfiles/laws.FnOver", spec := "fnOver", inPlace := ["internal/bytealg.CountString", "internal/bytealg.IndexByteString", "internal/bytealg.IndexString", "slices.overlaps[*loop.example/snapshotfiles/impl.node]", "internal/reflectlite.TypeOf"], unfollowed := true, recurses := true, named := ["loop.example/snapshotfiles/impl.errBroken", "unicode/utf8.first", "unicode/utf8.acceptRanges", "internal/bytealg.MaxLen"], ifaces := true, apart := false, laid := [("unicode/utf8.acceptRanges", laid_unicode_utf8_acceptRanges), ("loop.example/snapshotfiles/impl.errBroken", laid_loop_example_snapshotfiles_impl_errBroken), ("unicode/utf8.first", laid_unicode_utf8_first)], narrowed := true }
def FnOverUptoSaid : Prop := fnOverUptoRow.holds Tryz.pinned (OpenSpec.upto fnOverSpec)

/-- 'laws.FnAllowLess', WHERE WHAT IT READS IS OF BULK AT MOST 1048576: true; the input reads as it did. -/
def fnAllowLessUptoRow : OpenClaim := { program := "ytoljibhdakacjaagreatdoor", sum := "92baea3f29e2ea2ecbb6afe433daac1b3516e61ab11834d55bc9c5e5781e5173", func := "loop.example/snapshotfiles/laws.FnAllowLess", spec := "fnAllowLess", inPlace := ["internal/bytealg.CountString", "internal/bytealg.IndexByteString", "internal/bytealg.IndexString", "slices.overlaps[*loop.example/snapshotfiles/impl.node]", "internal/reflectlite.TypeOf"], unfollowed := true, recurses := true, named := ["loop.example/snapshotfiles/impl.errBroken", "unicode/utf8.first", "unicode/utf8.acceptRanges", "internal/bytealg.MaxLen"], ifaces := true, apart := false, laid := [("unicode/utf8.acceptRanges", laid_unicode_utf8_acceptRanges), ("loop.example/snapshotfiles/impl.errBroken", laid_loop_example_snapshotfiles_impl_errBroken), ("unicode/utf8.first", laid_unicode_utf8_first)], narrowed := true }
def FnAllowLessUptoSaid : Prop := fnAllowLessUptoRow.holds Tryz.pinned (OpenSpec.upto fnAllowLessSpec)

/-- 'laws.FnTreeText', WHERE WHAT IT READS IS OF BULK AT MOST 1048576: true; the input reads as it did. -/
def fnTreeTextUptoRow : OpenClaim := { program := "ytoljibhdakacjaagreatdoor", sum := "92baea3f29e2ea2ecbb6afe433daac1b3516e61ab11834d55bc9c5e5781e5173", func := "loop.example/snapshotfiles/laws.FnTreeText", spec := "fnTreeText", inPlace := ["internal/bytealg.CountString", "internal/bytealg.IndexByteString", "internal/bytealg.IndexString", "slices.overlaps[*loop.example/snapshotfiles/impl.node]", "internal/abi.NoEscape"], unfollowed := true, recurses := true, named := ["unicode/utf8.first", "unicode/utf8.acceptRanges", "internal/bytealg.MaxLen", "internal/strconv.uint64pow10", "math/bits.deBruijn32tab", "math/bits.deBruijn64tab"], apart := false, laid := [("math/bits.deBruijn32tab", laid_math_bits_deBruijn32tab), ("math/bits.deBruijn64tab", laid_math_bits_deBruijn64tab), ("internal/strconv.uint64pow10", laid_internal_strconv_uint64pow10), ("unicode/utf8.acceptRanges", laid_unicode_utf8_acceptRanges), ("unicode/utf8.first", laid_unicode_utf8_first)], narrowed := true }
def FnTreeTextUptoSaid : Prop := fnTreeTextUptoRow.holds Tryz.pinned (OpenSpec.upto fnTreeTextSpec)

/-- 'laws.FnTreeTextLines', WHERE WHAT IT READS IS OF BULK AT MOST 1048576: true; the input reads as it did. -/
def fnTreeTextLinesUptoRow : OpenClaim := { program := "ytoljibhdakacjaagreatdoor", sum := "92baea3f29e2ea2ecbb6afe433daac1b3516e61ab11834d55bc9c5e5781e5173", func := "loop.example/snapshotfiles/laws.FnTreeTextLines", spec := "fnTreeTextLines", inPlace := ["internal/bytealg.CountString", "internal/bytealg.IndexByteString", "internal/bytealg.IndexString", "slices.overlaps[*loop.example/snapshotfiles/impl.node]", "internal/abi.NoEscape"], unfollowed := true, recurses := true, named := ["unicode/utf8.first", "unicode/utf8.acceptRanges", "internal/bytealg.MaxLen", "internal/strconv.uint64pow10", "math/bits.deBruijn32tab", "math/bits.deBruijn64tab"], apart := false, laid := [("math/bits.deBruijn32tab", laid_math_bits_deBruijn32tab), ("math/bits.deBruijn64tab", laid_math_bits_deBruijn64tab), ("internal/strconv.uint64pow10", laid_internal_strconv_uint64pow10), ("unicode/utf8.acceptRanges", laid_unicode_utf8_acceptRanges), ("unicode/utf8.first", laid_unicode_utf8_first)], narrowed := true }
def FnTreeTextLinesUptoSaid : Prop := fnTreeTextLinesUptoRow.holds Tryz.pinned (OpenSpec.upto fnTreeTextLinesSpec)

/-- 'laws.FnDiskText', WHERE WHAT IT READS IS OF BULK AT MOST 1048576: true; the input reads as it did. -/
def fnDiskTextUptoRow : OpenClaim := { program := "ytoljibhdakacjaagreatdoor", sum := "92baea3f29e2ea2ecbb6afe433daac1b3516e61ab11834d55bc9c5e5781e5173", func := "loop.example/snapshotfiles/laws.FnDiskText", spec := "fnDiskText", inPlace := ["internal/bytealg.CountString", "internal/bytealg.IndexByteString", "internal/bytealg.IndexString", "slices.overlaps[*loop.example/snapshotfiles/impl.node]", "internal/abi.NoEscape"], unfollowed := true, recurses := true, named := ["unicode/utf8.first", "unicode/utf8.acceptRanges", "internal/bytealg.MaxLen", "internal/strconv.uint64pow10", "math/bits.deBruijn32tab", "math/bits.deBruijn64tab"], apart := false, laid := [("math/bits.deBruijn32tab", laid_math_bits_deBruijn32tab), ("math/bits.deBruijn64tab", laid_math_bits_deBruijn64tab), ("internal/strconv.uint64pow10", laid_internal_strconv_uint64pow10), ("unicode/utf8.acceptRanges", laid_unicode_utf8_acceptRanges), ("unicode/utf8.first", laid_unicode_utf8_first)], narrowed := true }
def FnDiskTextUptoSaid : Prop := fnDiskTextUptoRow.holds Tryz.pinned (OpenSpec.upto fnDiskTextSpec)

/-- 'laws.FnVolumeWriteOthers', WHERE WHAT IT READS IS OF BULK AT MOST 1048576: true; the input reads as it did. -/
def fnVolumeWriteOthersUptoRow : OpenClaim := { program := "ytoljibhdakacjaagreatdoor", sum := "92baea3f29e2ea2ecbb6afe433daac1b3516e61ab11834d55bc9c5e5781e5173", func := "loop.example/snapshotfiles/laws.FnVolumeWriteOthers", spec := "fnVolumeWriteOthers", inPlace := ["internal/bytealg.CountString", "internal/bytealg.IndexByteString", "internal/bytealg.IndexString", "slices.overlaps[*loop.example/snapshotfiles/impl.node]"], unfollowed := true, recurses := true, named := ["unicode/utf8.first", "unicode/utf8.acceptRanges", "internal/bytealg.MaxLen"], apart := false, laid := [("unicode/utf8.acceptRanges", laid_unicode_utf8_acceptRanges), ("unicode/utf8.first", laid_unicode_utf8_first)], narrowed := true }
def FnVolumeWriteOthersUptoSaid : Prop := fnVolumeWriteOthersUptoRow.holds Tryz.pinned (OpenSpec.upto fnVolumeWriteOthersSpec)

/-- 'laws.FnVolumeWriteTwice', WHERE WHAT IT READS IS OF BULK AT MOST 1048576: true; the input reads as it did. -/
def fnVolumeWriteTwiceUptoRow : OpenClaim := { program := "ytoljibhdakacjaagreatdoor", sum := "92baea3f29e2ea2ecbb6afe433daac1b3516e61ab11834d55bc9c5e5781e5173", func := "loop.example/snapshotfiles/laws.FnVolumeWriteTwice", spec := "fnVolumeWriteTwice", inPlace := ["internal/bytealg.CountString", "internal/bytealg.IndexByteString", "internal/bytealg.IndexString", "slices.overlaps[*loop.example/snapshotfiles/impl.node]"], unfollowed := true, recurses := true, named := ["unicode/utf8.first", "unicode/utf8.acceptRanges", "internal/bytealg.MaxLen"], apart := false, laid := [("unicode/utf8.acceptRanges", laid_unicode_utf8_acceptRanges), ("unicode/utf8.first", laid_unicode_utf8_first)], narrowed := true }
def FnVolumeWriteTwiceUptoSaid : Prop := fnVolumeWriteTwiceUptoRow.holds Tryz.pinned (OpenSpec.upto fnVolumeWriteTwiceSpec)

end Rows
end Go.Proofs.YtoljibhdakacjaaGreatDoor
