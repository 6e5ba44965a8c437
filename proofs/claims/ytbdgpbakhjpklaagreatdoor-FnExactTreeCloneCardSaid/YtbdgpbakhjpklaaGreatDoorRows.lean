/-
  NARROWER THAN 'FOR EVERY INPUT', by the rows' own cells (each row's printed sentence says how): FnTreeCloneMany: laid · FnTreeMoveBack: laid · FnTreeMoveNot: laid · FnTreeClone: laid · FnTreeCloneMove: laid · FnTreeMove: laid · FnExactTreeClone: laid · FnChanges: laid · FnExactTreeMove: laid · FnChangesRun: laid · FnExactChangesRun: laid.
  DERIVED. THE GIVEN ROWS OF THIS SEAT. 11 by the template 'for every input the law returns true; each argument reads behind the call as it read before'; 0 by the template 'total and deterministic' (their statements: YtbdgpbakhjpklaaGreatDoorTotals.lean).
  GIVEN WITH THE SEED: the statements are not yours to turn. If you find one false, say at which input.
  Laid BY PROGRAM, IN A SANDBOX (cutbox-rows.mjs): the forced cells as the released guide's own fill.sh prints them over the translation 87fa5d3a10fcdca2… (all of the seat's roots in one cut). By AI agents, Wed Nov 11 2026. No macro, syntax, notation, axiom, sorry.
-/
import Derived.Test.YtbdgpbakhjpklaaGreatDoorChecked
import GoSem.PinnedTables
import GoSem.Claim
import GoSem.ClaimJoined
import GoSem.ClaimMapViews
import Derived.JoinedTies
import Derived.KernelRfl
namespace Go.Proofs.YtbdgpbakhjpklaaGreatDoor
/- THE CELL 'sum', in the pinned program and in every row, IS THE sha256 OF THE DUMP (.gsa) THAT YtbdgpbakhjpklaaGreatDoorProg.lean LOADS. Nothing in Lean hashes anything: it is a label: what it is worth is what the hold of that sum in a sandbox is worth. -/
noncomputable def Tryz.pinned : Pinned := { name := "ytbdgpbakhjpklaagreatdoor", sum := "87fa5d3a10fcdca21a99a264dec30813e87f98fa9d4465abc16475370f8d752c", checked := Tryz.checked }
namespace Rows
def none {H : Type} : Left H := { results := [], args := [] }

/- WHAT THE LISTED PACKAGE-LEVEL VARIABLES READ AS WHEN THE CALL BEGINS. Each datum BY PROGRAM (the guide's laid-datum.mjs) off the statement by which the dump's own 'gosem.cut.vars' lays the variable. In a bare row this is a premise. The card (YtbdgpbakhjpklaaGreatDoorCards.lean) ties it to the program's text. -/
def laid_unicode_utf8_acceptRanges {H : Type} : DataW H := .agg [.agg [.lit (.int .u8 128), .lit (.int .u8 191)], .agg [.lit (.int .u8 160), .lit (.int .u8 191)], .agg [.lit (.int .u8 128), .lit (.int .u8 159)], .agg [.lit (.int .u8 144), .lit (.int .u8 191)], .agg [.lit (.int .u8 128), .lit (.int .u8 143)], .agg [.lit (.int .u8 0), .lit (.int .u8 0)], .agg [.lit (.int .u8 0), .lit (.int .u8 0)], .agg [.lit (.int .u8 0), .lit (.int .u8 0)], .agg [.lit (.int .u8 0), .lit (.int .u8 0)], .agg [.lit (.int .u8 0), .lit (.int .u8 0)], .agg [.lit (.int .u8 0), .lit (.int .u8 0)], .agg [.lit (.int .u8 0), .lit (.int .u8 0)], .agg [.lit (.int .u8 0), .lit (.int .u8 0)], .agg [.lit (.int .u8 0), .lit (.int .u8 0)], .agg [.lit (.int .u8 0), .lit (.int .u8 0)], .agg [.lit (.int .u8 0), .lit (.int .u8 0)]]
/-- One of Go's own tables, pinned by name: the form's constant. -/
def laid_unicode_utf8_first : DataW Unit := Go.Pinned.utf8First

/-- 'laws.FnTreeCloneMany': WHATEVER THE INPUT: true; the input reads as it did. -/
def fnTreeCloneManySpec : ChangeSpec := { name := "fnTreeCloneMany", fn := fun _ => fun
  | [d] => { results := [.lit (.bool true)], args := [d] }
  | _ => none }
def fnTreeCloneManyRow : OpenClaim := { program := "ytbdgpbakhjpklaagreatdoor", sum := "87fa5d3a10fcdca21a99a264dec30813e87f98fa9d4465abc16475370f8d752c", func := "loop.example/snapshotfiles/laws.FnTreeCloneMany", spec := "fnTreeCloneMany", inPlace := ["internal/bytealg.CountString", "internal/bytealg.IndexByteString", "internal/bytealg.IndexString", "slices.overlaps[*loop.example/snapshotfiles/impl.node]"], unfollowed := true, recurses := true, named := ["unicode/utf8.first", "unicode/utf8.acceptRanges", "internal/bytealg.MaxLen"], apart := false, laid := [("unicode/utf8.acceptRanges", laid_unicode_utf8_acceptRanges), ("unicode/utf8.first", laid_unicode_utf8_first)] }
def FnTreeCloneManySaid : Prop := fnTreeCloneManyRow.holds Tryz.pinned (OpenSpec.ofChange fnTreeCloneManySpec)

/-- ITS FALSE NEIGHBOUR: 'it returns false'. Refute it at one input. -/
def fnTreeCloneManyWrong : ChangeSpec := { name := "fnTreeCloneMany", fn := fun _ => fun
  | [d] => { results := [.lit (.bool false)], args := [d] }
  | _ => none }
def FnTreeCloneManyWrongFalsely : Prop := fnTreeCloneManyRow.holds Tryz.pinned (OpenSpec.ofChange fnTreeCloneManyWrong)

/-- 'laws.FnTreeMoveBack': WHATEVER THE INPUT: true; the input reads as it did. -/
def fnTreeMoveBackSpec : ChangeSpec := { name := "fnTreeMoveBack", fn := fun _ => fun
  | [d] => { results := [.lit (.bool true)], args := [d] }
  | _ => none }
def fnTreeMoveBackRow : OpenClaim := { program := "ytbdgpbakhjpklaagreatdoor", sum := "87fa5d3a10fcdca21a99a264dec30813e87f98fa9d4465abc16475370f8d752c", func := "loop.example/snapshotfiles/laws.FnTreeMoveBack", spec := "fnTreeMoveBack", inPlace := ["internal/bytealg.CountString", "internal/bytealg.IndexByteString", "internal/bytealg.IndexString", "slices.overlaps[*loop.example/snapshotfiles/impl.node]"], unfollowed := true, recurses := true, named := ["unicode/utf8.first", "unicode/utf8.acceptRanges", "internal/bytealg.MaxLen"], apart := false, laid := [("unicode/utf8.acceptRanges", laid_unicode_utf8_acceptRanges), ("unicode/utf8.first", laid_unicode_utf8_first)] }
def FnTreeMoveBackSaid : Prop := fnTreeMoveBackRow.holds Tryz.pinned (OpenSpec.ofChange fnTreeMoveBackSpec)

/-- ITS FALSE NEIGHBOUR: 'it returns false'. Refute it at one input. -/
def fnTreeMoveBackWrong : ChangeSpec := { name := "fnTreeMoveBack", fn := fun _ => fun
  | [d] => { results := [.lit (.bool false)], args := [d] }
  | _ => none }
def FnTreeMoveBackWrongFalsely : Prop := fnTreeMoveBackRow.holds Tryz.pinned (OpenSpec.ofChange fnTreeMoveBackWrong)

/-- 'laws.FnTreeMoveNot': WHATEVER THE INPUT: true; the input reads as it did. -/
def fnTreeMoveNotSpec : ChangeSpec := { name := "fnTreeMoveNot", fn := fun _ => fun
  | [d] => { results := [.lit (.bool true)], args := [d] }
  | _ => none }
def fnTreeMoveNotRow : OpenClaim := { program := "ytbdgpbakhjpklaagreatdoor", sum := "87fa5d3a10fcdca21a99a264dec30813e87f98fa9d4465abc16475370f8d752c", func := "loop.example/snapshotfiles/laws.FnTreeMoveNot", spec := "fnTreeMoveNot", inPlace := ["internal/bytealg.CountString", "internal/bytealg.IndexByteString", "internal/bytealg.IndexString", "slices.overlaps[*loop.example/snapshotfiles/impl.node]"], unfollowed := true, recurses := true, named := ["unicode/utf8.first", "unicode/utf8.acceptRanges", "internal/bytealg.MaxLen"], apart := false, laid := [("unicode/utf8.acceptRanges", laid_unicode_utf8_acceptRanges), ("unicode/utf8.first", laid_unicode_utf8_first)] }
def FnTreeMoveNotSaid : Prop := fnTreeMoveNotRow.holds Tryz.pinned (OpenSpec.ofChange fnTreeMoveNotSpec)

/-- ITS FALSE NEIGHBOUR: 'it returns false'. Refute it at one input. -/
def fnTreeMoveNotWrong : ChangeSpec := { name := "fnTreeMoveNot", fn := fun _ => fun
  | [d] => { results := [.lit (.bool false)], args := [d] }
  | _ => none }
def FnTreeMoveNotWrongFalsely : Prop := fnTreeMoveNotRow.holds Tryz.pinned (OpenSpec.ofChange fnTreeMoveNotWrong)

/-- 'laws.FnTreeClone': WHATEVER THE INPUT: true; the input reads as it did. -/
def fnTreeCloneSpec : ChangeSpec := { name := "fnTreeClone", fn := fun _ => fun
  | [d] => { results := [.lit (.bool true)], args := [d] }
  | _ => none }
def fnTreeCloneRow : OpenClaim := { program := "ytbdgpbakhjpklaagreatdoor", sum := "87fa5d3a10fcdca21a99a264dec30813e87f98fa9d4465abc16475370f8d752c", func := "loop.example/snapshotfiles/laws.FnTreeClone", spec := "fnTreeClone", inPlace := ["internal/bytealg.CountString", "internal/bytealg.IndexByteString", "internal/bytealg.IndexString", "slices.overlaps[*loop.example/snapshotfiles/impl.node]"], unfollowed := true, recurses := true, named := ["unicode/utf8.first", "unicode/utf8.acceptRanges", "internal/bytealg.MaxLen"], apart := false, laid := [("unicode/utf8.acceptRanges", laid_unicode_utf8_acceptRanges), ("unicode/utf8.first", laid_unicode_utf8_first)] }
def FnTreeCloneSaid : Prop := fnTreeCloneRow.holds Tryz.pinned (OpenSpec.ofChange fnTreeCloneSpec)

/-- ITS FALSE NEIGHBOUR: 'it returns false'. Refute it at one input. -/
def fnTreeCloneWrong : ChangeSpec := { name := "fnTreeClone", fn := fun _ => fun
  | [d] => { results := [.lit (.bool false)], args := [d] }
  | _ => none }
def FnTreeCloneWrongFalsely : Prop := fnTreeCloneRow.holds Tryz.pinned (OpenSpec.ofChange fnTreeCloneWrong)

/-- 'laws.FnTreeCloneMove': WHATEVER THE INPUT: true; the input reads as it did. -/
def fnTreeCloneMoveSpec : ChangeSpec := { name := "fnTreeCloneMove", fn := fun _ => fun
  | [d] => { results := [.lit (.bool true)], args := [d] }
  | _ => none }
def fnTreeCloneMoveRow : OpenClaim := { program := "ytbdgpbakhjpklaagreatdoor", sum := "87fa5d3a10fcdca21a99a264dec30813e87f98fa9d4465abc16475370f8d752c", func := "loop.example/snapshotfiles/laws.FnTreeCloneMove", spec := "fnTreeCloneMove", inPlace := ["internal/bytealg.CountString", "internal/bytealg.IndexByteString", "internal/bytealg.IndexString", "slices.overlaps[*loop.example/snapshotfiles/impl.node]"], unfollowed := true, recurses := true, named := ["unicode/utf8.first", "unicode/utf8.acceptRanges", "internal/bytealg.MaxLen"], apart := false, laid := [("unicode/utf8.acceptRanges", laid_unicode_utf8_acceptRanges), ("unicode/utf8.first", laid_unicode_utf8_first)] }
def FnTreeCloneMoveSaid : Prop := fnTreeCloneMoveRow.holds Tryz.pinned (OpenSpec.ofChange fnTreeCloneMoveSpec)

/-- ITS FALSE NEIGHBOUR: 'it returns false'. Refute it at one input. -/
def fnTreeCloneMoveWrong : ChangeSpec := { name := "fnTreeCloneMove", fn := fun _ => fun
  | [d] => { results := [.lit (.bool false)], args := [d] }
  | _ => none }
def FnTreeCloneMoveWrongFalsely : Prop := fnTreeCloneMoveRow.holds Tryz.pinned (OpenSpec.ofChange fnTreeCloneMoveWrong)

/-- 'laws.FnTreeMove': WHATEVER THE INPUT: true; the input reads as it did. -/
def fnTreeMoveSpec : ChangeSpec := { name := "fnTreeMove", fn := fun _ => fun
  | [d] => { results := [.lit (.bool true)], args := [d] }
  | _ => none }
def fnTreeMoveRow : OpenClaim := { program := "ytbdgpbakhjpklaagreatdoor", sum := "87fa5d3a10fcdca21a99a264dec30813e87f98fa9d4465abc16475370f8d752c", func := "loop.example/snapshotfiles/laws.FnTreeMove", spec := "fnTreeMove", inPlace := ["internal/bytealg.CountString", "internal/bytealg.IndexByteString", "internal/bytealg.IndexString", "slices.overlaps[*loop.example/snapshotfiles/impl.node]"], unfollowed := true, recurses := true, named := ["unicode/utf8.first", "unicode/utf8.acceptRanges", "internal/bytealg.MaxLen"], apart := false, laid := [("unicode/utf8.acceptRanges", laid_unicode_utf8_acceptRanges), ("unicode/utf8.first", laid_unicode_utf8_first)] }
def FnTreeMoveSaid : Prop := fnTreeMoveRow.holds Tryz.pinned (OpenSpec.ofChange fnTreeMoveSpec)

/-- ITS FALSE NEIGHBOUR: 'it returns false'. Refute it at one input. -/
def fnTreeMoveWrong : ChangeSpec := { name := "fnTreeMove", fn := fun _ => fun
  | [d] => { results := [.lit (.bool false)], args := [d] }
  | _ => none }
def FnTreeMoveWrongFalsely : Prop := fnTreeMoveRow.holds Tryz.pinned (OpenSpec.ofChange fnTreeMoveWrong)

/-- 'laws.FnExactTreeClone': WHATEVER THE INPUT: true; the input reads as it did. -/
def fnExactTreeCloneSpec : ChangeSpec := { name := "fnExactTreeClone", fn := fun _ => fun
  | [d1, d2, d3] => { results := [.lit (.bool true)], args := [d1, d2, d3] }
  | _ => none }
def fnExactTreeCloneRow : OpenClaim := { program := "ytbdgpbakhjpklaagreatdoor", sum := "87fa5d3a10fcdca21a99a264dec30813e87f98fa9d4465abc16475370f8d752c", func := "loop.example/snapshotfiles/laws.FnExactTreeClone", spec := "fnExactTreeClone", inPlace := ["internal/bytealg.CountString", "internal/bytealg.IndexByteString", "internal/bytealg.IndexString", "slices.overlaps[*loop.example/snapshotfiles/impl.node]"], unfollowed := true, recurses := true, named := ["unicode/utf8.first", "unicode/utf8.acceptRanges", "internal/bytealg.MaxLen"], apart := false, laid := [("unicode/utf8.acceptRanges", laid_unicode_utf8_acceptRanges), ("unicode/utf8.first", laid_unicode_utf8_first)] }
def FnExactTreeCloneSaid : Prop := fnExactTreeCloneRow.holds Tryz.pinned (OpenSpec.ofChange fnExactTreeCloneSpec)

/-- ITS FALSE NEIGHBOUR: 'it returns false'. Refute it at one input. -/
def fnExactTreeCloneWrong : ChangeSpec := { name := "fnExactTreeClone", fn := fun _ => fun
  | [d1, d2, d3] => { results := [.lit (.bool false)], args := [d1, d2, d3] }
  | _ => none }
def FnExactTreeCloneWrongFalsely : Prop := fnExactTreeCloneRow.holds Tryz.pinned (OpenSpec.ofChange fnExactTreeCloneWrong)

/-- 'laws.FnChanges': WHATEVER THE INPUT: true; the input reads as it did. -/
def fnChangesSpec : ChangeSpec := { name := "fnChanges", fn := fun _ => fun
  | [d] => { results := [.lit (.bool true)], args := [d] }
  | _ => none }
def fnChangesRow : OpenClaim := { program := "ytbdgpbakhjpklaagreatdoor", sum := "87fa5d3a10fcdca21a99a264dec30813e87f98fa9d4465abc16475370f8d752c", func := "loop.example/snapshotfiles/laws.FnChanges", spec := "fnChanges", inPlace := ["internal/bytealg.CountString", "internal/bytealg.IndexByteString", "internal/bytealg.IndexString", "slices.overlaps[*loop.example/snapshotfiles/impl.node]"], unfollowed := true, recurses := true, named := ["unicode/utf8.first", "unicode/utf8.acceptRanges", "internal/bytealg.MaxLen"], apart := false, laid := [("unicode/utf8.acceptRanges", laid_unicode_utf8_acceptRanges), ("unicode/utf8.first", laid_unicode_utf8_first)] }
def FnChangesSaid : Prop := fnChangesRow.holds Tryz.pinned (OpenSpec.ofChange fnChangesSpec)

/-- ITS FALSE NEIGHBOUR: 'it returns false'. Refute it at one input. -/
def fnChangesWrong : ChangeSpec := { name := "fnChanges", fn := fun _ => fun
  | [d] => { results := [.lit (.bool false)], args := [d] }
  | _ => none }
def FnChangesWrongFalsely : Prop := fnChangesRow.holds Tryz.pinned (OpenSpec.ofChange fnChangesWrong)

/-- 'laws.FnExactTreeMove': WHATEVER THE INPUT: true; the input reads as it did. -/
def fnExactTreeMoveSpec : ChangeSpec := { name := "fnExactTreeMove", fn := fun _ => fun
  | [d1, d2, d3] => { results := [.lit (.bool true)], args := [d1, d2, d3] }
  | _ => none }
def fnExactTreeMoveRow : OpenClaim := { program := "ytbdgpbakhjpklaagreatdoor", sum := "87fa5d3a10fcdca21a99a264dec30813e87f98fa9d4465abc16475370f8d752c", func := "loop.example/snapshotfiles/laws.FnExactTreeMove", spec := "fnExactTreeMove", inPlace := ["internal/bytealg.CountString", "internal/bytealg.IndexByteString", "internal/bytealg.IndexString", "slices.overlaps[*loop.example/snapshotfiles/impl.node]"], unfollowed := true, recurses := true, named := ["unicode/utf8.first", "unicode/utf8.acceptRanges", "internal/bytealg.MaxLen"], apart := false, laid := [("unicode/utf8.acceptRanges", laid_unicode_utf8_acceptRanges), ("unicode/utf8.first", laid_unicode_utf8_first)] }
def FnExactTreeMoveSaid : Prop := fnExactTreeMoveRow.holds Tryz.pinned (OpenSpec.ofChange fnExactTreeMoveSpec)

/-- ITS FALSE NEIGHBOUR: 'it returns false'. Refute it at one input. -/
def fnExactTreeMoveWrong : ChangeSpec := { name := "fnExactTreeMove", fn := fun _ => fun
  | [d1, d2, d3] => { results := [.lit (.bool false)], args := [d1, d2, d3] }
  | _ => none }
def FnExactTreeMoveWrongFalsely : Prop := fnExactTreeMoveRow.holds Tryz.pinned (OpenSpec.ofChange fnExactTreeMoveWrong)

/-- 'laws.FnChangesRun': WHATEVER THE INPUT: true; the input reads as it did. -/
def fnChangesRunSpec : ChangeSpec := { name := "fnChangesRun", fn := fun _ => fun
  | [d] => { results := [.lit (.bool true)], args := [d] }
  | _ => none }
def fnChangesRunRow : OpenClaim := { program := "ytbdgpbakhjpklaagreatdoor", sum := "87fa5d3a10fcdca21a99a264dec30813e87f98fa9d4465abc16475370f8d752c", func := "loop.example/snapshotfiles/laws.FnChangesRun", spec := "fnChangesRun", inPlace := ["internal/bytealg.CountString", "internal/bytealg.IndexByteString", "internal/bytealg.IndexString", "slices.overlaps[*loop.example/snapshotfiles/impl.node]"], unfollowed := true, recurses := true, named := ["unicode/utf8.first", "unicode/utf8.acceptRanges", "internal/bytealg.MaxLen"], apart := false, laid := [("unicode/utf8.acceptRanges", laid_unicode_utf8_acceptRanges), ("unicode/utf8.first", laid_unicode_utf8_first)] }
def FnChangesRunSaid : Prop := fnChangesRunRow.holds Tryz.pinned (OpenSpec.ofChange fnChangesRunSpec)

/-- ITS FALSE NEIGHBOUR: 'it returns false'. Refute it at one input. -/
def fnChangesRunWrong : ChangeSpec := { name := "fnChangesRun", fn := fun _ => fun
  | [d] => { results := [.lit (.bool false)], args := [d] }
  | _ => none }
def FnChangesRunWrongFalsely : Prop := fnChangesRunRow.holds Tryz.pinned (OpenSpec.ofChange fnChangesRunWrong)

/-- 'laws.FnExactChangesRun': WHATEVER THE INPUT: true; the input reads as it did. -/
def fnExactChangesRunSpec : ChangeSpec := { name := "fnExactChangesRun", fn := fun _ => fun
  | [d1, d2] => { results := [.lit (.bool true)], args := [d1, d2] }
  | _ => none }
def fnExactChangesRunRow : OpenClaim := { program := "ytbdgpbakhjpklaagreatdoor", sum := "87fa5d3a10fcdca21a99a264dec30813e87f98fa9d4465abc16475370f8d752c", func := "loop.example/snapshotfiles/laws.FnExactChangesRun", spec := "fnExactChangesRun", inPlace := ["internal/bytealg.CountString", "internal/bytealg.IndexByteString", "internal/bytealg.IndexString", "slices.overlaps[*loop.example/snapshotfiles/impl.node]"], unfollowed := true, recurses := true, named := ["unicode/utf8.first", "unicode/utf8.acceptRanges", "internal/bytealg.MaxLen"], apart := false, laid := [("unicode/utf8.acceptRanges", laid_unicode_utf8_acceptRanges), ("unicode/utf8.first", laid_unicode_utf8_first)] }
def FnExactChangesRunSaid : Prop := fnExactChangesRunRow.holds Tryz.pinned (OpenSpec.ofChange fnExactChangesRunSpec)

/-- ITS FALSE NEIGHBOUR: 'it returns false'. Refute it at one input. -/
def fnExactChangesRunWrong : ChangeSpec := { name := "fnExactChangesRun", fn := fun _ => fun
  | [d1, d2] => { results := [.lit (.bool false)], args := [d1, d2] }
  | _ => none }
def FnExactChangesRunWrongFalsely : Prop := fnExactChangesRunRow.holds Tryz.pinned (OpenSpec.ofChange fnExactChangesRunWrong)

/- THE SECOND FORM. 'bulk': how many values and letters a reading holds, each counted each time it is reached (what is shared counts as often as it is met; a slice's spare places count too). A statement '..UptoSaid' is the law's where the arguments, and the package variables that the reading takes, are together of bulk at most 1048576: NARROWER than '..Said'. Prove '..Said' where nothing that the law and all that it calls make is longer than what came in: it says more and counts as full. Else prove '..UptoSaid'. A law counts once. -/
mutual
def uptoBulk {H : Type} : DataW H → Nat
  | .lit (.string bytes) => bytes.length + 1
  | .lit _ => 1
  | .nil => 1
  | .ptr d => uptoBulk d + 1
  | .slice elems spare => uptoBulkAll elems + uptoBulkAll spare + 1
  | .agg parts => uptoBulkAll parts + 1
  | .iface _ d => uptoBulk d + 1
  | .map entries => uptoBulkEntries entries + 1
  | .held _ => 1
def uptoBulkAll {H : Type} : List (DataW H) → Nat
  | [] => 0
  | d :: r => uptoBulk d + uptoBulkAll r
def uptoBulkEntries {H : Type} : List (Lit × DataW H) → Nat
  | [] => 0
  | x :: r => uptoBulkEntry x + uptoBulkEntries r
def uptoBulkEntry {H : Type} : Lit × DataW H → Nat
  | (.string bytes, d) => bytes.length + uptoBulk d + 1
  | (_, d) => uptoBulk d + 1
 end
def uptoSmall : (H : Type) → List (DataW H) → Bool := fun _ ds => decide (uptoBulkAll ds ≤ 1048576)
def OpenSpec.upto (s : _root_.Go.ChangeSpec) : _root_.Go.OpenSpec := { _root_.Go.OpenSpec.ofChange s with cond := some uptoSmall }

/-- 'laws.FnTreeCloneMany', WHERE WHAT IT READS IS OF BULK AT MOST 1048576: true; the input reads as it did. -/
def fnTreeCloneManyUptoRow : OpenClaim := { program := "ytbdgpbakhjpklaagreatdoor", sum := "87fa5d3a10fcdca21a99a264dec30813e87f98fa9d4465abc16475370f8d752c", func := "loop.example/snapshotfiles/laws.FnTreeCloneMany", spec := "fnTreeCloneMany", inPlace := ["internal/bytealg.CountString", "internal/bytealg.IndexByteString", "internal/bytealg.IndexString", "slices.overlaps[*loop.example/snapshotfiles/impl.node]"], unfollowed := true, recurses := true, named := ["unicode/utf8.first", "unicode/utf8.acceptRanges", "internal/bytealg.MaxLen"], apart := false, laid := [("unicode/utf8.acceptRanges", laid_unicode_utf8_acceptRanges), ("unicode/utf8.first", laid_unicode_utf8_first)], narrowed := true }
def FnTreeCloneManyUptoSaid : Prop := fnTreeCloneManyUptoRow.holds Tryz.pinned (OpenSpec.upto fnTreeCloneManySpec)

/-- 'laws.FnTreeMoveBack', WHERE WHAT IT READS IS OF BULK AT MOST 1048576: true; the input reads as it did. -/
def fnTreeMoveBackUptoRow : OpenClaim := { program := "ytbdgpbakhjpklaagreatdoor", sum := "87fa5d3a10fcdca21a99a264dec30813e87f98fa9d4465abc16475370f8d752c", func := "loop.example/snapshotfiles/laws.FnTreeMoveBack", spec := "fnTreeMoveBack", inPlace := ["internal/bytealg.CountString", "internal/bytealg.IndexByteString", "internal/bytealg.IndexString", "slices.overlaps[*loop.example/snapshotfiles/impl.node]"], unfollowed := true, recurses := true, named := ["unicode/utf8.first", "unicode/utf8.acceptRanges", "internal/bytealg.MaxLen"], apart := false, laid := [("unicode/utf8.acceptRanges", laid_unicode_utf8_acceptRanges), ("unicode/utf8.first", laid_unicode_utf8_first)], narrowed := true }
def FnTreeMoveBackUptoSaid : Prop := fnTreeMoveBackUptoRow.holds Tryz.pinned (OpenSpec.upto fnTreeMoveBackSpec)

/-- 'laws.FnTreeMoveNot', WHERE WHAT IT READS IS OF BULK AT MOST 1048576: true; the input reads as it did. -/
def fnTreeMoveNotUptoRow : OpenClaim := { program := "ytbdgpbakhjpklaagreatdoor", sum := "87fa5d3a10fcdca21a99a264dec30813e87f98fa9d4465abc16475370f8d752c", func := "loop.example/snapshotfiles/laws.FnTreeMoveNot", spec := "fnTreeMoveNot", inPlace := ["internal/bytealg.CountString", "internal/bytealg.IndexByteString", "internal/bytealg.IndexString", "slices.overlaps[*loop.example/snapshotfiles/impl.node]"], unfollowed := true, recurses := true, named := ["unicode/utf8.first", "unicode/utf8.acceptRanges", "internal/bytealg.MaxLen"], apart := false, laid := [("unicode/utf8.acceptRanges", laid_unicode_utf8_acceptRanges), ("unicode/utf8.first", laid_unicode_utf8_first)], narrowed := true }
def FnTreeMoveNotUptoSaid : Prop := fnTreeMoveNotUptoRow.holds Tryz.pinned (OpenSpec.upto fnTreeMoveNotSpec)

/-- 'laws.FnTreeClone', WHERE WHAT IT READS IS OF BULK AT MOST 1048576: true; the input reads as it did. -/
def fnTreeCloneUptoRow : OpenClaim := { program := "ytbdgpbakhjpklaagreatdoor", sum := "87fa5d3a10fcdca21a99a264dec30813e87f98fa9d4465abc16475370f8d752c", func := "loop.example/snapshotfiles/laws.FnTreeClone", spec := "fnTreeClone", inPlace := ["internal/bytealg.CountString", "internal/bytealg.IndexByteString", "internal/bytealg.IndexString", "slices.overlaps[*loop.example/snapshotfiles/impl.node]"], unfollowed := true, recurses := true, named := ["unicode/utf8.first", "unicode/utf8.acceptRanges", "internal/bytealg.MaxLen"], apart := false, laid := [("unicode/utf8.acceptRanges", laid_unicode_utf8_acceptRanges), ("unicode/utf8.first", laid_unicode_utf8_first)], narrowed := true }
def FnTreeCloneUptoSaid : Prop := fnTreeCloneUptoRow.holds Tryz.pinned (OpenSpec.upto fnTreeCloneSpec)

/-- 'laws.FnTreeCloneMove', WHERE WHAT IT READS IS OF BULK AT MOST 1048576: true; the input reads as it did. -/
def fnTreeCloneMoveUptoRow : OpenClaim := { program := "ytbdgpbakhjpklaagreatdoor", sum := "87fa5d3a10fcdca21a99a264dec30813e87f98fa9d4465abc16475370f8d752c", func := "loop.example/snapshotfiles/laws.FnTreeCloneMove", spec := "fnTreeCloneMove", inPlace := ["internal/bytealg.CountString", "internal/bytealg.IndexByteString", "internal/bytealg.IndexString", "slices.overlaps[*loop.example/snapshotfiles/impl.node]"], unfollowed := true, recurses := true, named := ["unicode/utf8.first", "unicode/utf8.acceptRanges", "internal/bytealg.MaxLen"], apart := false, laid := [("unicode/utf8.acceptRanges", laid_unicode_utf8_acceptRanges), ("unicode/utf8.first", laid_unicode_utf8_first)], narrowed := true }
def FnTreeCloneMoveUptoSaid : Prop := fnTreeCloneMoveUptoRow.holds Tryz.pinned (OpenSpec.upto fnTreeCloneMoveSpec)

/-- 'laws.FnTreeMove', WHERE WHAT IT READS IS OF BULK AT MOST 1048576: true; the input reads as it did. -/
def fnTreeMoveUptoRow : OpenClaim := { program := "ytbdgpbakhjpklaagreatdoor", sum := "87fa5d3a10fcdca21a99a264dec30813e87f98fa9d4465abc16475370f8d752c", func := "loop.example/snapshotfiles/laws.FnTreeMove", spec := "fnTreeMove", inPlace := ["internal/bytealg.CountString", "internal/bytealg.IndexByteString", "internal/bytealg.IndexString", "slices.overlaps[*loop.example/snapshotfiles/impl.node]"], unfollowed := true, recurses := true, named := ["unicode/utf8.first", "unicode/utf8.acceptRanges", "internal/bytealg.MaxLen"], apart := false, laid := [("unicode/utf8.acceptRanges", laid_unicode_utf8_acceptRanges), ("unicode/utf8.first", laid_unicode_utf8_first)], narrowed := true }
def FnTreeMoveUptoSaid : Prop := fnTreeMoveUptoRow.holds Tryz.pinned (OpenSpec.upto fnTreeMoveSpec)

/-- 'laws.FnExactTreeClone', WHERE WHAT IT READS IS OF BULK AT MOST 1048576: true; the input reads as it did. -/
def fnExactTreeCloneUptoRow : OpenClaim := { program := "ytbdgpbakhjpklaagreatdoor", sum := "87fa5d3a10fcdca21a99a264dec30813e87f98fa9d4465abc16475370f8d752c", func := "loop.example/snapshotfiles/laws.FnExactTreeClone", spec := "fnExactTreeClone", inPlace := ["internal/bytealg.CountString", "internal/bytealg.IndexByteString", "internal/bytealg.IndexString", "slices.overlaps[*loop.example/snapshotfiles/impl.node]"], unfollowed := true, recurses := true, named := ["unicode/utf8.first", "unicode/utf8.acceptRanges", "internal/bytealg.MaxLen"], apart := false, laid := [("unicode/utf8.acceptRanges", laid_unicode_utf8_acceptRanges), ("unicode/utf8.first", laid_unicode_utf8_first)], narrowed := true }
def FnExactTreeCloneUptoSaid : Prop := fnExactTreeCloneUptoRow.holds Tryz.pinned (OpenSpec.upto fnExactTreeCloneSpec)

/-- 'laws.FnChanges', WHERE WHAT IT READS IS OF BULK AT MOST 1048576: true; the input reads as it did. -/
def fnChangesUptoRow : OpenClaim := { program := "ytbdgpbakhjpklaagreatdoor", sum := "87fa5d3a10fcdca21a99a264dec30813e87f98fa9d4465abc16475370f8d752c", func := "loop.example/snapshotfiles/laws.FnChanges", spec := "fnChanges", inPlace := ["internal/bytealg.CountString", "internal/bytealg.IndexByteString", "internal/bytealg.IndexString", "slices.overlaps[*loop.example/snapshotfiles/impl.node]"], unfollowed := true, recurses := true, named := ["unicode/utf8.first", "unicode/utf8.acceptRanges", "internal/bytealg.MaxLen"], apart := false, laid := [("unicode/utf8.acceptRanges", laid_unicode_utf8_acceptRanges), ("unicode/utf8.first", laid_unicode_utf8_first)], narrowed := true }
def FnChangesUptoSaid : Prop := fnChangesUptoRow.holds Tryz.pinned (OpenSpec.upto fnChangesSpec)

/-- 'laws.FnExactTreeMove', WHERE WHAT IT READS IS OF BULK AT MOST 1048576: true; the input reads as it did. -/
def fnExactTreeMoveUptoRow : OpenClaim := { program := "ytbdgpbakhjpklaagreatdoor", sum := "87fa5d3a10fcdca21a99a264dec30813e87f98fa9d4465abc16475370f8d752c", func := "loop.example/snapshotfiles/laws.FnExactTreeMove", spec := "fnExactTreeMove", inPlace := ["internal/bytealg.CountString", "internal/bytealg.IndexByteString", "internal/bytealg.IndexString", "slices.overlaps[*loop.example/snapshotfiles/impl.node]"], unfollowed := true, recurses := true, named := ["unicode/utf8.first", "unicode/utf8.acceptRanges", "internal/bytealg.MaxLen"], apart := false, laid := [("unicode/utf8.acceptRanges", laid_unicode_utf8_acceptRanges), ("unicode/utf8.first", laid_unicode_utf8_first)], narrowed := true }
def FnExactTreeMoveUptoSaid : Prop := fnExactTreeMoveUptoRow.holds Tryz.pinned (OpenSpec.upto fnExactTreeMoveSpec)

/-- 'laws.FnChangesRun', WHERE WHAT IT READS IS OF BULK AT MOST 1048576: true; the input reads as it did. -/
def fnChangesRunUptoRow : OpenClaim := { program := "ytbdgpbakhjpklaagreatdoor", sum := "87fa5d3a10fcdca21a99a264dec30813e87f98fa9d4465abc16475370f8d752c", func := "loop.example/snapshotfiles/laws.FnChangesRun", spec := "fnChangesRun", inPlace := ["internal/bytealg.CountString", "internal/bytealg.IndexByteString", "internal/bytealg.IndexString", "slices.overlaps[*loop.example/snapshotfiles/impl.node]"], unfollowed := true, recurses := true, named := ["unicode/utf8.first", "unicode/utf8.acceptRanges", "internal/bytealg.MaxLen"], apart := false, laid := [("unicode/utf8.acceptRanges", laid_unicode_utf8_acceptRanges), ("unicode/utf8.first", laid_unicode_utf8_first)], narrowed := true }
def FnChangesRunUptoSaid : Prop := fnChangesRunUptoRow.holds Tryz.pinned (OpenSpec.upto fnChangesRunSpec)

/-- 'laws.FnExactChangesRun', WHERE WHAT IT READS IS OF BULK AT MOST 1048576: true; the input reads as it did. -/
def fnExactChangesRunUptoRow : OpenClaim := { program := "ytbdgpbakhjpklaagreatdoor", sum := "87fa5d3a10fcdca21a99a264dec30813e87f98fa9d4465abc16475370f8d752c", func := "loop.example/snapshotfiles/laws.FnExactChangesRun", spec := "fnExactChangesRun", inPlace := ["internal/bytealg.CountString", "internal/bytealg.IndexByteString", "internal/bytealg.IndexString", "slices.overlaps[*loop.example/snapshotfiles/impl.node]"], unfollowed := true, recurses := true, named := ["unicode/utf8.first", "unicode/utf8.acceptRanges", "internal/bytealg.MaxLen"], apart := false, laid := [("unicode/utf8.acceptRanges", laid_unicode_utf8_acceptRanges), ("unicode/utf8.first", laid_unicode_utf8_first)], narrowed := true }
def FnExactChangesRunUptoSaid : Prop := fnExactChangesRunUptoRow.holds Tryz.pinned (OpenSpec.upto fnExactChangesRunSpec)

end Rows
end Go.Proofs.YtbdgpbakhjpklaaGreatDoor
