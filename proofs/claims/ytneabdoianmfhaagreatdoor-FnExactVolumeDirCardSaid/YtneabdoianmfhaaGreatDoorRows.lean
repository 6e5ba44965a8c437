/-
  NARROWER THAN 'FOR EVERY INPUT', by the rows' own cells (each row's printed sentence says how): FnExactCountOnly: laid · FnExactCountBytes: laid · FnExactHistoryOf: laid · FnExactStreamOf: laid · FnExactQuotasOver: ifaces, laid · FnExactVolumeDir: laid · FnExactVolumeDrop: laid · FnExactCountShared: laid.
  DERIVED. THE GIVEN ROWS OF THIS SEAT. 8 by the template 'for every input the law returns true; each argument reads behind the call as it read before'; 0 by the template 'total and deterministic' (their statements: YtneabdoianmfhaaGreatDoorTotals.lean).
  GIVEN WITH THE SEED: the statements are not yours to turn. If you find one false, say at which input.
  Laid BY PROGRAM, IN A SANDBOX (cutbox-rows.mjs): the forced cells as the released guide's own fill.sh prints them over the translation bb57d283ad76e336… (all of the seat's roots in one cut). By AI agents, Wed Nov 11 2026. No macro, syntax, notation, axiom, sorry.
-/
import Derived.Test.YtneabdoianmfhaaGreatDoorChecked
import GoSem.PinnedTables
import GoSem.Claim
import GoSem.ClaimJoined
import GoSem.ClaimMapViews
import Derived.JoinedTies
import Derived.KernelRfl
namespace Go.Proofs.YtneabdoianmfhaaGreatDoor
/- THE CELL 'sum', in the pinned program and in every row, IS THE sha256 OF THE DUMP (.gsa) THAT YtneabdoianmfhaaGreatDoorProg.lean LOADS. Nothing in Lean hashes anything: it is a label: what it is worth is what the hold of that sum in a sandbox is worth. -/
noncomputable def Tryz.pinned : Pinned := { name := "ytneabdoianmfhaagreatdoor", sum := "bb57d283ad76e33666146aa4326d9b31ba29f808061cee471530d117a152cea4", checked := Tryz.checked }
namespace Rows
def none {H : Type} : Left H := { results := [], args := [] }

/- WHAT THE LISTED PACKAGE-LEVEL VARIABLES READ AS WHEN THE CALL BEGINS. Each datum BY PROGRAM (the guide's laid-datum.mjs) off the statement by which the dump's own 'gosem.cut.vars' lays the variable. In a bare row this is a premise. The card (YtneabdoianmfhaaGreatDoorCards.lean) ties it to the program's text. -/
def laid_unicode_utf8_acceptRanges {H : Type} : DataW H := .agg [.agg [.lit (.int .u8 128), .lit (.int .u8 191)], .agg [.lit (.int .u8 160), .lit (.int .u8 191)], .agg [.lit (.int .u8 128), .lit (.int .u8 159)], .agg [.lit (.int .u8 144), .lit (.int .u8 191)], .agg [.lit (.int .u8 128), .lit (.int .u8 143)], .agg [.lit (.int .u8 0), .lit (.int .u8 0)], .agg [.lit (.int .u8 0), .lit (.int .u8 0)], .agg [.lit (.int .u8 0), .lit (.int .u8 0)], .agg [.lit (.int .u8 0), .lit (.int .u8 0)], .agg [.lit (.int .u8 0), .lit (.int .u8 0)], .agg [.lit (.int .u8 0), .lit (.int .u8 0)], .agg [.lit (.int .u8 0), .lit (.int .u8 0)], .agg [.lit (.int .u8 0), .lit (.int .u8 0)], .agg [.lit (.int .u8 0), .lit (.int .u8 0)], .agg [.lit (.int .u8 0), .lit (.int .u8 0)], .agg [.lit (.int .u8 0), .lit (.int .u8 0)]]
def laid_errors_errorType {H : Type} : DataW H := .iface "internal/reflectlite.rtype" (.agg [.ptr (.lit (.string [101, 114, 114, 111, 114]))])
/-- One of Go's own tables, pinned by name: the form's constant. -/
def laid_unicode_utf8_first : DataW Unit := Go.Pinned.utf8First
def laid_loop_example_snapshotfiles_impl_errBroken {H : Type} : DataW H := .iface "*errors.errorString" (.ptr (.agg [.lit (.string [113, 117, 111, 116, 97, 32, 105, 115, 32, 98, 114, 111, 107, 101, 110])]))

/-- 'laws.FnExactCountOnly': WHATEVER THE INPUT: true; the input reads as it did. -/
def fnExactCountOnlySpec : ChangeSpec := { name := "fnExactCountOnly", fn := fun _ => fun
  | [d1, d2] => { results := [.lit (.bool true)], args := [d1, d2] }
  | _ => none }
def fnExactCountOnlyRow : OpenClaim := { program := "ytneabdoianmfhaagreatdoor", sum := "bb57d283ad76e33666146aa4326d9b31ba29f808061cee471530d117a152cea4", func := "loop.example/snapshotfiles/laws.FnExactCountOnly", spec := "fnExactCountOnly", inPlace := ["internal/bytealg.CountString", "internal/bytealg.IndexByteString", "internal/bytealg.IndexString", "slices.overlaps[*loop.example/snapshotfiles/impl.node]", "internal/reflectlite.ValueOf", "(internal/reflectlite.Value).Type", "(internal/reflectlite.Value).IsNil", "internal/reflectlite.TypeOf", "(internal/reflectlite.Value).Elem", "(internal/reflectlite.Value).Set"], unfollowed := true, recurses := true, named := ["unicode/utf8.first", "unicode/utf8.acceptRanges", "internal/bytealg.MaxLen", "errors.errorType"], apart := false, laid := [("unicode/utf8.acceptRanges", laid_unicode_utf8_acceptRanges), ("errors.errorType", laid_errors_errorType), ("unicode/utf8.first", laid_unicode_utf8_first)] }
def FnExactCountOnlySaid : Prop := fnExactCountOnlyRow.holds Tryz.pinned (OpenSpec.ofChange fnExactCountOnlySpec)

/-- ITS FALSE NEIGHBOUR: 'it returns false'. Refute it at one input. -/
def fnExactCountOnlyWrong : ChangeSpec := { name := "fnExactCountOnly", fn := fun _ => fun
  | [d1, d2] => { results := [.lit (.bool false)], args := [d1, d2] }
  | _ => none }
def FnExactCountOnlyWrongFalsely : Prop := fnExactCountOnlyRow.holds Tryz.pinned (OpenSpec.ofChange fnExactCountOnlyWrong)

/-- 'laws.FnExactCountBytes': WHATEVER THE INPUT: true; the input reads as it did. -/
def fnExactCountBytesSpec : ChangeSpec := { name := "fnExactCountBytes", fn := fun _ => fun
  | [d] => { results := [.lit (.bool true)], args := [d] }
  | _ => none }
def fnExactCountBytesRow : OpenClaim := { program := "ytneabdoianmfhaagreatdoor", sum := "bb57d283ad76e33666146aa4326d9b31ba29f808061cee471530d117a152cea4", func := "loop.example/snapshotfiles/laws.FnExactCountBytes", spec := "fnExactCountBytes", inPlace := ["internal/bytealg.CountString", "internal/bytealg.IndexByteString", "internal/bytealg.IndexString", "slices.overlaps[*loop.example/snapshotfiles/impl.node]", "internal/reflectlite.ValueOf", "(internal/reflectlite.Value).Type", "(internal/reflectlite.Value).IsNil", "internal/reflectlite.TypeOf", "(internal/reflectlite.Value).Elem", "(internal/reflectlite.Value).Set"], unfollowed := true, recurses := true, named := ["unicode/utf8.first", "unicode/utf8.acceptRanges", "internal/bytealg.MaxLen", "errors.errorType"], apart := false, laid := [("unicode/utf8.acceptRanges", laid_unicode_utf8_acceptRanges), ("errors.errorType", laid_errors_errorType), ("unicode/utf8.first", laid_unicode_utf8_first)] }
def FnExactCountBytesSaid : Prop := fnExactCountBytesRow.holds Tryz.pinned (OpenSpec.ofChange fnExactCountBytesSpec)

/-- ITS FALSE NEIGHBOUR: 'it returns false'. Refute it at one input. -/
def fnExactCountBytesWrong : ChangeSpec := { name := "fnExactCountBytes", fn := fun _ => fun
  | [d] => { results := [.lit (.bool false)], args := [d] }
  | _ => none }
def FnExactCountBytesWrongFalsely : Prop := fnExactCountBytesRow.holds Tryz.pinned (OpenSpec.ofChange fnExactCountBytesWrong)

/-- 'laws.FnExactHistoryOf': WHATEVER THE INPUT: true; the input reads as it did. -/
def fnExactHistoryOfSpec : ChangeSpec := { name := "fnExactHistoryOf", fn := fun _ => fun
  | [d1, d2] => { results := [.lit (.bool true)], args := [d1, d2] }
  | _ => none }
def fnExactHistoryOfRow : OpenClaim := { program := "ytneabdoianmfhaagreatdoor", sum := "bb57d283ad76e33666146aa4326d9b31ba29f808061cee471530d117a152cea4", func := "loop.example/snapshotfiles/laws.FnExactHistoryOf", spec := "fnExactHistoryOf", inPlace := ["internal/bytealg.CountString", "internal/bytealg.IndexByteString", "internal/bytealg.IndexString", "slices.overlaps[*loop.example/snapshotfiles/impl.node]"], unfollowed := true, recurses := true, named := ["unicode/utf8.first", "unicode/utf8.acceptRanges", "internal/bytealg.MaxLen"], apart := false, laid := [("unicode/utf8.acceptRanges", laid_unicode_utf8_acceptRanges), ("unicode/utf8.first", laid_unicode_utf8_first)] }
def FnExactHistoryOfSaid : Prop := fnExactHistoryOfRow.holds Tryz.pinned (OpenSpec.ofChange fnExactHistoryOfSpec)

/-- ITS FALSE NEIGHBOUR: 'it returns false'. Refute it at one input. -/
def fnExactHistoryOfWrong : ChangeSpec := { name := "fnExactHistoryOf", fn := fun _ => fun
  | [d1, d2] => { results := [.lit (.bool false)], args := [d1, d2] }
  | _ => none }
def FnExactHistoryOfWrongFalsely : Prop := fnExactHistoryOfRow.holds Tryz.pinned (OpenSpec.ofChange fnExactHistoryOfWrong)

/-- 'laws.FnExactStreamOf': WHATEVER THE INPUT: true; the input reads as it did. -/
def fnExactStreamOfSpec : ChangeSpec := { name := "fnExactStreamOf", fn := fun _ => fun
  | [d1, d2, d3] => { results := [.lit (.bool true)], args := [d1, d2, d3] }
  | _ => none }
def fnExactStreamOfRow : OpenClaim := { program := "ytneabdoianmfhaagreatdoor", sum := "bb57d283ad76e33666146aa4326d9b31ba29f808061cee471530d117a152cea4", func := "loop.example/snapshotfiles/laws.FnExactStreamOf", spec := "fnExactStreamOf", inPlace := ["internal/bytealg.CountString", "internal/bytealg.IndexByteString", "internal/bytealg.IndexString", "slices.overlaps[*loop.example/snapshotfiles/impl.node]"], unfollowed := true, recurses := true, named := ["unicode/utf8.first", "unicode/utf8.acceptRanges", "internal/bytealg.MaxLen"], apart := false, laid := [("unicode/utf8.acceptRanges", laid_unicode_utf8_acceptRanges), ("unicode/utf8.first", laid_unicode_utf8_first)] }
def FnExactStreamOfSaid : Prop := fnExactStreamOfRow.holds Tryz.pinned (OpenSpec.ofChange fnExactStreamOfSpec)

/-- ITS FALSE NEIGHBOUR: 'it returns false'. Refute it at one input. -/
def fnExactStreamOfWrong : ChangeSpec := { name := "fnExactStreamOf", fn := fun _ => fun
  | [d1, d2, d3] => { results := [.lit (.bool false)], args := [d1, d2, d3] }
  | _ => none }
def FnExactStreamOfWrongFalsely : Prop := fnExactStreamOfRow.holds Tryz.pinned (OpenSpec.ofChange fnExactStreamOfWrong)

/-- 'laws.FnExactQuotasOver': WHATEVER THE INPUT: true; the input reads as it did. -/
def fnExactQuotasOverSpec : ChangeSpec := { name := "fnExactQuotasOver", vars := ["loop.example/snapshotfiles/impl.errBroken"], fn := fun _ => fun
  | [d1, d2, g1] => { results := [.lit (.bool true)], args := [d1, d2], vars := [g1] }
  | _ => none }
def fnExactQuotasOverRow : OpenClaim := { program := "ytneabdoianmfhaagreatdoor", sum := "bb57d283ad76e33666146aa4326d9b31ba29f808061cee471530d117a152cea4", func := "loop.example/snapshotfiles/laws.FnExactQuotasOver", spec := "fnExactQuotasOver", inPlace := ["internal/bytealg.CountString", "internal/bytealg.IndexByteString", "internal/bytealg.IndexString", "slices.overlaps[*loop.example/snapshotfiles/impl.node]", "internal/reflectlite.TypeOf"], unfollowed := true, recurses := true, named := ["loop.example/snapshotfiles/impl.errBroken", "unicode/utf8.first", "unicode/utf8.acceptRanges", "internal/bytealg.MaxLen"], ifaces := true, apart := false, laid := [("unicode/utf8.acceptRanges", laid_unicode_utf8_acceptRanges), ("loop.example/snapshotfiles/impl.errBroken", laid_loop_example_snapshotfiles_impl_errBroken), ("unicode/utf8.first", laid_unicode_utf8_first)] }
def FnExactQuotasOverSaid : Prop := fnExactQuotasOverRow.holds Tryz.pinned (OpenSpec.ofChange fnExactQuotasOverSpec)

/-- ITS FALSE NEIGHBOUR: 'it returns false'. Refute it at one input. -/
def fnExactQuotasOverWrong : ChangeSpec := { name := "fnExactQuotasOver", vars := ["loop.example/snapshotfiles/impl.errBroken"], fn := fun _ => fun
  | [d1, d2, g1] => { results := [.lit (.bool false)], args := [d1, d2], vars := [g1] }
  | _ => none }
def FnExactQuotasOverWrongFalsely : Prop := fnExactQuotasOverRow.holds Tryz.pinned (OpenSpec.ofChange fnExactQuotasOverWrong)

/-- 'laws.FnExactVolumeDir': WHATEVER THE INPUT: true; the input reads as it did. -/
def fnExactVolumeDirSpec : ChangeSpec := { name := "fnExactVolumeDir", fn := fun _ => fun
  | [d1, d2] => { results := [.lit (.bool true)], args := [d1, d2] }
  | _ => none }
def fnExactVolumeDirRow : OpenClaim := { program := "ytneabdoianmfhaagreatdoor", sum := "bb57d283ad76e33666146aa4326d9b31ba29f808061cee471530d117a152cea4", func := "loop.example/snapshotfiles/laws.FnExactVolumeDir", spec := "fnExactVolumeDir", inPlace := ["internal/bytealg.CountString", "internal/bytealg.IndexByteString", "internal/bytealg.IndexString", "slices.overlaps[*loop.example/snapshotfiles/impl.node]"], unfollowed := true, recurses := true, named := ["unicode/utf8.first", "unicode/utf8.acceptRanges", "internal/bytealg.MaxLen"], apart := false, laid := [("unicode/utf8.acceptRanges", laid_unicode_utf8_acceptRanges), ("unicode/utf8.first", laid_unicode_utf8_first)] }
def FnExactVolumeDirSaid : Prop := fnExactVolumeDirRow.holds Tryz.pinned (OpenSpec.ofChange fnExactVolumeDirSpec)

/-- ITS FALSE NEIGHBOUR: 'it returns false'. Refute it at one input. -/
def fnExactVolumeDirWrong : ChangeSpec := { name := "fnExactVolumeDir", fn := fun _ => fun
  | [d1, d2] => { results := [.lit (.bool false)], args := [d1, d2] }
  | _ => none }
def FnExactVolumeDirWrongFalsely : Prop := fnExactVolumeDirRow.holds Tryz.pinned (OpenSpec.ofChange fnExactVolumeDirWrong)

/-- 'laws.FnExactVolumeDrop': WHATEVER THE INPUT: true; the input reads as it did. -/
def fnExactVolumeDropSpec : ChangeSpec := { name := "fnExactVolumeDrop", fn := fun _ => fun
  | [d1, d2] => { results := [.lit (.bool true)], args := [d1, d2] }
  | _ => none }
def fnExactVolumeDropRow : OpenClaim := { program := "ytneabdoianmfhaagreatdoor", sum := "bb57d283ad76e33666146aa4326d9b31ba29f808061cee471530d117a152cea4", func := "loop.example/snapshotfiles/laws.FnExactVolumeDrop", spec := "fnExactVolumeDrop", inPlace := ["internal/bytealg.CountString", "internal/bytealg.IndexByteString", "internal/bytealg.IndexString", "slices.overlaps[*loop.example/snapshotfiles/impl.node]"], unfollowed := true, recurses := true, named := ["unicode/utf8.first", "unicode/utf8.acceptRanges", "internal/bytealg.MaxLen"], apart := false, laid := [("unicode/utf8.acceptRanges", laid_unicode_utf8_acceptRanges), ("unicode/utf8.first", laid_unicode_utf8_first)] }
def FnExactVolumeDropSaid : Prop := fnExactVolumeDropRow.holds Tryz.pinned (OpenSpec.ofChange fnExactVolumeDropSpec)

/-- ITS FALSE NEIGHBOUR: 'it returns false'. Refute it at one input. -/
def fnExactVolumeDropWrong : ChangeSpec := { name := "fnExactVolumeDrop", fn := fun _ => fun
  | [d1, d2] => { results := [.lit (.bool false)], args := [d1, d2] }
  | _ => none }
def FnExactVolumeDropWrongFalsely : Prop := fnExactVolumeDropRow.holds Tryz.pinned (OpenSpec.ofChange fnExactVolumeDropWrong)

/-- 'laws.FnExactCountShared': WHATEVER THE INPUT: true; the input reads as it did. -/
def fnExactCountSharedSpec : ChangeSpec := { name := "fnExactCountShared", fn := fun _ => fun
  | [d] => { results := [.lit (.bool true)], args := [d] }
  | _ => none }
def fnExactCountSharedRow : OpenClaim := { program := "ytneabdoianmfhaagreatdoor", sum := "bb57d283ad76e33666146aa4326d9b31ba29f808061cee471530d117a152cea4", func := "loop.example/snapshotfiles/laws.FnExactCountShared", spec := "fnExactCountShared", inPlace := ["internal/bytealg.CountString", "internal/bytealg.IndexByteString", "internal/bytealg.IndexString", "slices.overlaps[*loop.example/snapshotfiles/impl.node]", "internal/reflectlite.ValueOf", "(internal/reflectlite.Value).Type", "(internal/reflectlite.Value).IsNil", "internal/reflectlite.TypeOf", "(internal/reflectlite.Value).Elem", "(internal/reflectlite.Value).Set"], unfollowed := true, recurses := true, named := ["unicode/utf8.first", "unicode/utf8.acceptRanges", "internal/bytealg.MaxLen", "errors.errorType"], apart := false, laid := [("unicode/utf8.acceptRanges", laid_unicode_utf8_acceptRanges), ("errors.errorType", laid_errors_errorType), ("unicode/utf8.first", laid_unicode_utf8_first)] }
def FnExactCountSharedSaid : Prop := fnExactCountSharedRow.holds Tryz.pinned (OpenSpec.ofChange fnExactCountSharedSpec)

/-- ITS FALSE NEIGHBOUR: 'it returns false'. Refute it at one input. -/
def fnExactCountSharedWrong : ChangeSpec := { name := "fnExactCountShared", fn := fun _ => fun
  | [d] => { results := [.lit (.bool false)], args := [d] }
  | _ => none }
def FnExactCountSharedWrongFalsely : Prop := fnExactCountSharedRow.holds Tryz.pinned (OpenSpec.ofChange fnExactCountSharedWrong)

/- THE SECOND FORM. 'bulk': how many values and letters a reading holds, each counted each time it is reached (what is shared counts as often as it is met; a slice's spare places count too). A statement '..UptoSaid' is the law's where the arguments, and the package variables that the reading takes, are together of bulk at most 1048576: NARROWER than '..Said'. Prove '..Said' where nothing that the law and all that it calls make is longer than what came in: it says more and counts as full. Else prove '..UptoSaid'. A law counts once. -/
mutual
def uptoBulk {H : Type} : DataW H → Nat
  | .lit (.string bytes) => bytes.length + 1
  | .lit _ => 1
  | .nil => 1
  | .ptr d => uptoBulk d + 1
  | .slice elems spare => uptoBulkAll elems + uptoBulkAll spare + 1
  | .agg parts => uptoBulkAll parts + 1
  | .iface _ d => uptoBulk d + 1
  | .map entries => uptoBulkEntries entries + 1
  | .held _ => 1
def uptoBulkAll {H : Type} : List (DataW H) → Nat
  | [] => 0
  | d :: r => uptoBulk d + uptoBulkAll r
def uptoBulkEntries {H : Type} : List (Lit × DataW H) → Nat
  | [] => 0
  | x :: r => uptoBulkEntry x + uptoBulkEntries r
def uptoBulkEntry {H : Type} : Lit × DataW H → Nat
  | (.string bytes, d) => bytes.length + uptoBulk d + 1
  | (_, d) => uptoBulk d + 1
 end
def uptoSmall : (H : Type) → List (DataW H) → Bool := fun _ ds => decide (uptoBulkAll ds ≤ 1048576)
def OpenSpec.upto (s : _root_.Go.ChangeSpec) : _root_.Go.OpenSpec := { _root_.Go.OpenSpec.ofChange s with cond := some uptoSmall }

/-- 'laws.FnExactCountOnly', WHERE WHAT IT READS IS OF BULK AT MOST 1048576: true; the input reads as it did. -/
def fnExactCountOnlyUptoRow : OpenClaim := { program := "ytneabdoianmfhaagreatdoor", sum := "bb57d283ad76e33666146aa4326d9b31ba29f808061cee471530d117a152cea4", func := "loop.example/snapshotfiles/laws.FnExactCountOnly", spec := "fnExactCountOnly", inPlace := ["internal/bytealg.CountString", "internal/bytealg.IndexByteString", "internal/bytealg.IndexString", "slices.overlaps[*loop.example/snapshotfiles/impl.node]", "internal/reflectlite.ValueOf", "(internal/reflectlite.Value).Type", "(internal/reflectlite.Value).IsNil", "internal/reflectlite.TypeOf", "(internal/reflectlite.Value).Elem", "(internal/reflectlite.Value).Set"], unfollowed := true, recurses := true, named := ["unicode/utf8.first", "unicode/utf8.acceptRanges", "internal/bytealg.MaxLen", "errors.errorType"], apart := false, laid := [("unicode/utf8.acceptRanges", laid_unicode_utf8_acceptRanges), ("errors.errorType", laid_errors_errorType), ("unicode/utf8.first", laid_unicode_utf8_first)], narrowed := true }
def FnExactCountOnlyUptoSaid : Prop := fnExactCountOnlyUptoRow.holds Tryz.pinned (OpenSpec.upto fnExactCountOnlySpec)

/-- 'laws.FnExactCountBytes', WHERE WHAT IT READS IS OF BULK AT MOST 1048576: true; the input reads as it did. -/
def fnExactCountBytesUptoRow : OpenClaim := { program := "ytneabdoianmfhaagreatdoor", sum := "bb57d283ad76e33666146aa4326d9b31ba29f808061cee471530d117a152cea4", func := "loop.example/snapshotfiles/laws.FnExactCountBytes", spec := "fnExactCountBytes", inPlace := ["internal/bytealg.CountString", "internal/bytealg.IndexByteString", "internal/bytealg.IndexString", "slices.overlaps[*loop.example/snapshotfiles/impl.node]", "internal/reflectlite.ValueOf", "(internal/reflectlite.Value).Type", "(internal/reflectlite.Value).IsNil", "internal/reflectlite.TypeOf", "(internal/reflectlite.Value).Elem", "(internal/reflectlite.Value).Set"], unfollowed := true, recurses := true, named := ["unicode/utf8.first", "unicode/utf8.acceptRanges", "internal/bytealg.MaxLen", "errors.errorType"], apart := false, laid := [("unicode/utf8.acceptRanges", laid_unicode_utf8_acceptRanges), ("errors.errorType", laid_errors_errorType), ("unicode/utf8.first", laid_unicode_utf8_first)], narrowed := true }
def FnExactCountBytesUptoSaid : Prop := fnExactCountBytesUptoRow.holds Tryz.pinned (OpenSpec.upto fnExactCountBytesSpec)

/-- 'laws.FnExactHistoryOf', WHERE WHAT IT READS IS OF BULK AT MOST 1048576: true; the input reads as it did. -/
def fnExactHistoryOfUptoRow : OpenClaim := { program := "ytneabdoianmfhaagreatdoor", sum := "bb57d283ad76e33666146aa4326d9b31ba29f808061cee471530d117a152cea4", func := "loop.example/snapshotfiles/laws.FnExactHistoryOf", spec := "fnExactHistoryOf", inPlace := ["internal/bytealg.CountString", "internal/bytealg.IndexByteString", "internal/bytealg.IndexString", "slices.overlaps[*loop.example/snapshotfiles/impl.node]"], unfollowed := true, recurses := true, named := ["unicode/utf8.first", "unicode/utf8.acceptRanges", "internal/bytealg.MaxLen"], apart := false, laid := [("unicode/utf8.acceptRanges", laid_unicode_utf8_acceptRanges), ("unicode/utf8.first", laid_unicode_utf8_first)], narrowed := true }
def FnExactHistoryOfUptoSaid : Prop := fnExactHistoryOfUptoRow.holds Tryz.pinned (OpenSpec.upto fnExactHistoryOfSpec)

/-- 'laws.FnExactStreamOf', WHERE WHAT IT READS IS OF BULK AT MOST 1048576: true; the input reads as it did. -/
def fnExactStreamOfUptoRow : OpenClaim := { program := "ytneabdoianmfhaagreatdoor", sum := "bb57d283ad76e33666146aa4326d9b31ba29f808061cee471530d117a152cea4", func := "loop.example/snapshotfiles/laws.FnExactStreamOf", spec := "fnExactStreamOf", inPlace := ["internal/bytealg.CountString", "internal/bytealg.IndexByteString", "internal/bytealg.IndexString", "slices.overlaps[*loop.example/snapshotfiles/impl.node]"], unfollowed := true, recurses := true, named := ["unicode/utf8.first", "unicode/utf8.acceptRanges", "internal/bytealg.MaxLen"], apart := false, laid := [("unicode/utf8.acceptRanges", laid_unicode_utf8_acceptRanges), ("unicode/utf8.first", laid_unicode_utf8_first)], narrowed := true }
def FnExactStreamOfUptoSaid : Prop := fnExactStreamOfUptoRow.holds Tryz.pinned (OpenSpec.upto fnExactStreamOfSpec)

/-- 'laws.FnExactQuotasOver', WHERE WHAT IT READS IS OF BULK AT MOST 1048576: true; the input reads as it did. -/
def fnExactQuotasOverUptoRow : OpenClaim := { program := "ytneabdoianmfhaagreatdoor", sum := "bb57d283ad76e33666146aa4326d9b31ba29f808061cee471530d117a152cea4", func := "loop.example/snapshotfiles/laws.FnExactQuotasOver", spec := "fnExactQuotasOver", inPlace := ["internal/bytealg.CountString", "internal/bytealg.IndexByteString", "internal/bytealg.IndexString", "slices.overlaps[*loop.example/snapshotfiles/impl.node]", "internal/reflectlite.TypeOf"], unfollowed := true, recurses := true, named := ["loop.example/snapshotfiles/impl.errBroken", "unicode/utf8.first", "unicode/utf8.acceptRanges", "internal/bytealg.MaxLen"], ifaces := true, apart := false, laid := [("unicode/utf8.acceptRanges", laid_unicode_utf8_acceptRanges), ("loop.example/snapshotfiles/impl.errBroken", laid_loop_example_snapshotfiles_impl_errBroken), ("unicode/utf8.first", laid_unicode_utf8_first)], narrowed := true }
def FnExactQuotasOverUptoSaid : Prop := fnExactQuotasOverUptoRow.holds Tryz.pinned (OpenSpec.upto fnExactQuotasOverSpec)

/-- 'laws.FnExactVolumeDir', WHERE WHAT IT READS IS OF BULK AT MOST 1048576: true; the input reads as it did. -/
def fnExactVolumeDirUptoRow : OpenClaim := { program := "ytneabdoianmfhaagreatdoor", sum := "bb57d283ad76e33666146aa4326d9b31ba29f808061cee471530d117a152cea4", func := "loop.example/snapshotfiles/laws.FnExactVolumeDir", spec := "fnExactVolumeDir", inPlace := ["internal/bytealg.CountString", "internal/bytealg.IndexByteString", "internal/bytealg.IndexString", "slices.overlaps[*loop.example/snapshotfiles/impl.node]"], unfollowed := true, recurses := true, named := ["unicode/utf8.first", "unicode/utf8.acceptRanges", "internal/bytealg.MaxLen"], apart := false, laid := [("unicode/utf8.acceptRanges", laid_unicode_utf8_acceptRanges), ("unicode/utf8.first", laid_unicode_utf8_first)], narrowed := true }
def FnExactVolumeDirUptoSaid : Prop := fnExactVolumeDirUptoRow.holds Tryz.pinned (OpenSpec.upto fnExactVolumeDirSpec)

/-- 'laws.FnExactVolumeDrop', WHERE WHAT IT READS IS OF BULK AT MOST 1048576: true; the input reads as it did. -/
def fnExactVolumeDropUptoRow : OpenClaim := { program := "ytneabdoianmfhaagreatdoor", sum := "bb57d283ad76e33666146aa4326d9b31ba29f808061cee471530d117a152cea4", func := "loop.example/snapshotfiles/laws.FnExactVolumeDrop", spec := "fnExactVolumeDrop", inPlace := ["internal/bytealg.CountString", "internal/bytealg.IndexByteString", "internal/bytealg.IndexString", "slices.overlaps[*loop.example/snapshotfiles/impl.node]"], unfollowed := true, recurses := true, named := ["unicode/utf8.first", "unicode/utf8.acceptRanges", "internal/bytealg.MaxLen"], apart := false, laid := [("unicode/utf8.acceptRanges", laid_unicode_utf8_acceptRanges), ("unicode/utf8.first", laid_unicode_utf8_first)], narrowed := true }
def FnExactVolumeDropUptoSaid : Prop := fnExactVolumeDropUptoRow.holds Tryz.pinned (OpenSpec.upto fnExactVolumeDropSpec)

/-- 'laws.FnExactCountShared', WHERE WHAT IT READS IS OF BULK AT MOST 1048576: true; the input reads as it did. -/
def fnExactCountSharedUptoRow : OpenClaim := { program := "ytneabdoianmfhaagreatdoor", sum := "bb57d283ad76e33666146aa4326d9b31ba29f808061cee471530d117a152cea4", func := "loop.example/snapshotfiles/laws.FnExactCountShared", spec := "fnExactCountShared", inPlace := ["internal/bytealg.CountString", "internal/bytealg.IndexByteString", "internal/bytealg.IndexString", "slices.overlaps[*loop.example/snapshotfiles/impl.node]", "internal/reflectlite.ValueOf", "(internal/reflectlite.Value).Type", "(internal/reflectlite.Value).IsNil", "internal/reflectlite.TypeOf", "(internal/reflectlite.Value).Elem", "(internal/reflectlite.Value).Set"], unfollowed := true, recurses := true, named := ["unicode/utf8.first", "unicode/utf8.acceptRanges", "internal/bytealg.MaxLen", "errors.errorType"], apart := false, laid := [("unicode/utf8.acceptRanges", laid_unicode_utf8_acceptRanges), ("errors.errorType", laid_errors_errorType), ("unicode/utf8.first", laid_unicode_utf8_first)], narrowed := true }
def FnExactCountSharedUptoSaid : Prop := fnExactCountSharedUptoRow.holds Tryz.pinned (OpenSpec.upto fnExactCountSharedSpec)

end Rows
end Go.Proofs.YtneabdoianmfhaaGreatDoor
