/-
  NARROWER THAN 'FOR EVERY INPUT', by the rows' own cells (each row's printed sentence says how): FnChangesBack: laid · FnChangesNew: laid · FnChangesNone: laid · FnChangesKinds: laid · FnExactChangesOf: laid.
  DERIVED. THE GIVEN ROWS OF THIS SEAT. 5 by the template 'for every input the law returns true; each argument reads behind the call as it read before'; 0 by the template 'total and deterministic' (their statements: YtfpkllihfcgmaaaDoorTotals.lean).
  GIVEN WITH THE SEED: the statements are not yours to turn. If you find one false, say at which input.
  Laid BY PROGRAM, IN A SANDBOX (cutbox-rows.mjs): the forced cells as the released guide's own fill.sh prints them over the translation 93cbb0937d4fec42… (all of the seat's roots in one cut). By AI agents, Wed Nov 11 2026. No macro, syntax, notation, axiom, sorry.
-/
import Derived.Test.YtfpkllihfcgmaaaDoorChecked
import GoSem.PinnedTables
import GoSem.Claim
import GoSem.ClaimJoined
import GoSem.ClaimMapViews
import Derived.JoinedTies
import Derived.KernelRfl
namespace Go.Proofs.YtfpkllihfcgmaaaDoor
/- THE CELL 'sum', in the pinned program and in every row, IS THE sha256 OF THE DUMP (.gsa) THAT YtfpkllihfcgmaaaDoorProg.lean LOADS. Nothing in Lean hashes anything: it is a label: what it is worth is what the hold of that sum in a sandbox is worth. -/
noncomputable def Tryd.pinned : Pinned := { name := "ytfpkllihfcgmaaadoor", sum := "93cbb0937d4fec428800a9ca33ab4ea9eb98b1081247ba96d062451b5278b055", checked := Tryd.checked }
namespace Rows
def none {H : Type} : Left H := { results := [], args := [] }

/- WHAT THE LISTED PACKAGE-LEVEL VARIABLES READ AS WHEN THE CALL BEGINS. Each datum BY PROGRAM (the guide's laid-datum.mjs) off the statement by which the dump's own 'gosem.cut.vars' lays the variable. In a bare row this is a premise. The card (YtfpkllihfcgmaaaDoorCards.lean) ties it to the program's text. -/
def laid_unicode_utf8_acceptRanges {H : Type} : DataW H := .agg [.agg [.lit (.int .u8 128), .lit (.int .u8 191)], .agg [.lit (.int .u8 160), .lit (.int .u8 191)], .agg [.lit (.int .u8 128), .lit (.int .u8 159)], .agg [.lit (.int .u8 144), .lit (.int .u8 191)], .agg [.lit (.int .u8 128), .lit (.int .u8 143)], .agg [.lit (.int .u8 0), .lit (.int .u8 0)], .agg [.lit (.int .u8 0), .lit (.int .u8 0)], .agg [.lit (.int .u8 0), .lit (.int .u8 0)], .agg [.lit (.int .u8 0), .lit (.int .u8 0)], .agg [.lit (.int .u8 0), .lit (.int .u8 0)], .agg [.lit (.int .u8 0), .lit (.int .u8 0)], .agg [.lit (.int .u8 0), .lit (.int .u8 0)], .agg [.lit (.int .u8 0), .lit (.int .u8 0)], .agg [.lit (.int .u8 0), .lit (.int .u8 0)], .agg [.lit (.int .u8 0), .lit (.int .u8 0)], .agg [.lit (.int .u8 0), .lit (.int .u8 0)]]
/-- One of Go's own tables, pinned by name: the form's constant. -/
def laid_unicode_utf8_first : DataW Unit := Go.Pinned.utf8First

/-- 'laws.FnChangesBack': WHATEVER THE INPUT: true; the input reads as it did. -/
def fnChangesBackSpec : ChangeSpec := { name := "fnChangesBack", fn := fun _ => fun
  | [d] => { results := [.lit (.bool true)], args := [d] }
  | _ => none }
def fnChangesBackRow : OpenClaim := { program := "ytfpkllihfcgmaaadoor", sum := "93cbb0937d4fec428800a9ca33ab4ea9eb98b1081247ba96d062451b5278b055", func := "loop.example/snapshotfiles/laws.FnChangesBack", spec := "fnChangesBack", inPlace := ["internal/bytealg.CountString", "internal/bytealg.IndexByteString", "internal/bytealg.IndexString", "slices.overlaps[*loop.example/snapshotfiles/impl.node]"], unfollowed := true, recurses := true, named := ["unicode/utf8.first", "unicode/utf8.acceptRanges", "internal/bytealg.MaxLen"], apart := false, laid := [("unicode/utf8.acceptRanges", laid_unicode_utf8_acceptRanges), ("unicode/utf8.first", laid_unicode_utf8_first)] }
def FnChangesBackSaid : Prop := fnChangesBackRow.holds Tryd.pinned (OpenSpec.ofChange fnChangesBackSpec)

/-- ITS FALSE NEIGHBOUR: 'it returns false'. Refute it at one input. -/
def fnChangesBackWrong : ChangeSpec := { name := "fnChangesBack", fn := fun _ => fun
  | [d] => { results := [.lit (.bool false)], args := [d] }
  | _ => none }
def FnChangesBackWrongFalsely : Prop := fnChangesBackRow.holds Tryd.pinned (OpenSpec.ofChange fnChangesBackWrong)

/-- 'laws.FnChangesNew': WHATEVER THE INPUT: true; the input reads as it did. -/
def fnChangesNewSpec : ChangeSpec := { name := "fnChangesNew", fn := fun _ => fun
  | [d] => { results := [.lit (.bool true)], args := [d] }
  | _ => none }
def fnChangesNewRow : OpenClaim := { program := "ytfpkllihfcgmaaadoor", sum := "93cbb0937d4fec428800a9ca33ab4ea9eb98b1081247ba96d062451b5278b055", func := "loop.example/snapshotfiles/laws.FnChangesNew", spec := "fnChangesNew", inPlace := ["internal/bytealg.CountString", "internal/bytealg.IndexByteString", "internal/bytealg.IndexString", "slices.overlaps[*loop.example/snapshotfiles/impl.node]"], unfollowed := true, recurses := true, named := ["unicode/utf8.first", "unicode/utf8.acceptRanges", "internal/bytealg.MaxLen"], apart := false, laid := [("unicode/utf8.acceptRanges", laid_unicode_utf8_acceptRanges), ("unicode/utf8.first", laid_unicode_utf8_first)] }
def FnChangesNewSaid : Prop := fnChangesNewRow.holds Tryd.pinned (OpenSpec.ofChange fnChangesNewSpec)

/-- ITS FALSE NEIGHBOUR: 'it returns false'. Refute it at one input. -/
def fnChangesNewWrong : ChangeSpec := { name := "fnChangesNew", fn := fun _ => fun
  | [d] => { results := [.lit (.bool false)], args := [d] }
  | _ => none }
def FnChangesNewWrongFalsely : Prop := fnChangesNewRow.holds Tryd.pinned (OpenSpec.ofChange fnChangesNewWrong)

/-- 'laws.FnChangesNone': WHATEVER THE INPUT: true; the input reads as it did. -/
def fnChangesNoneSpec : ChangeSpec := { name := "fnChangesNone", fn := fun _ => fun
  | [d] => { results := [.lit (.bool true)], args := [d] }
  | _ => none }
def fnChangesNoneRow : OpenClaim := { program := "ytfpkllihfcgmaaadoor", sum := "93cbb0937d4fec428800a9ca33ab4ea9eb98b1081247ba96d062451b5278b055", func := "loop.example/snapshotfiles/laws.FnChangesNone", spec := "fnChangesNone", inPlace := ["internal/bytealg.CountString", "internal/bytealg.IndexByteString", "internal/bytealg.IndexString", "slices.overlaps[*loop.example/snapshotfiles/impl.node]"], unfollowed := true, recurses := true, named := ["unicode/utf8.first", "unicode/utf8.acceptRanges", "internal/bytealg.MaxLen"], apart := false, laid := [("unicode/utf8.acceptRanges", laid_unicode_utf8_acceptRanges), ("unicode/utf8.first", laid_unicode_utf8_first)] }
def FnChangesNoneSaid : Prop := fnChangesNoneRow.holds Tryd.pinned (OpenSpec.ofChange fnChangesNoneSpec)

/-- ITS FALSE NEIGHBOUR: 'it returns false'. Refute it at one input. -/
def fnChangesNoneWrong : ChangeSpec := { name := "fnChangesNone", fn := fun _ => fun
  | [d] => { results := [.lit (.bool false)], args := [d] }
  | _ => none }
def FnChangesNoneWrongFalsely : Prop := fnChangesNoneRow.holds Tryd.pinned (OpenSpec.ofChange fnChangesNoneWrong)

/-- 'laws.FnChangesKinds': WHATEVER THE INPUT: true; the input reads as it did. -/
def fnChangesKindsSpec : ChangeSpec := { name := "fnChangesKinds", fn := fun _ => fun
  | [d] => { results := [.lit (.bool true)], args := [d] }
  | _ => none }
def fnChangesKindsRow : OpenClaim := { program := "ytfpkllihfcgmaaadoor", sum := "93cbb0937d4fec428800a9ca33ab4ea9eb98b1081247ba96d062451b5278b055", func := "loop.example/snapshotfiles/laws.FnChangesKinds", spec := "fnChangesKinds", inPlace := ["internal/bytealg.CountString", "internal/bytealg.IndexByteString", "internal/bytealg.IndexString", "slices.overlaps[*loop.example/snapshotfiles/impl.node]"], unfollowed := true, recurses := true, named := ["unicode/utf8.first", "unicode/utf8.acceptRanges", "internal/bytealg.MaxLen"], apart := false, laid := [("unicode/utf8.acceptRanges", laid_unicode_utf8_acceptRanges), ("unicode/utf8.first", laid_unicode_utf8_first)] }
def FnChangesKindsSaid : Prop := fnChangesKindsRow.holds Tryd.pinned (OpenSpec.ofChange fnChangesKindsSpec)

/-- ITS FALSE NEIGHBOUR: 'it returns false'. Refute it at one input. -/
def fnChangesKindsWrong : ChangeSpec := { name := "fnChangesKinds", fn := fun _ => fun
  | [d] => { results := [.lit (.bool false)], args := [d] }
  | _ => none }
def FnChangesKindsWrongFalsely : Prop := fnChangesKindsRow.holds Tryd.pinned (OpenSpec.ofChange fnChangesKindsWrong)

/-- 'laws.FnExactChangesOf': WHATEVER THE INPUT: true; the input reads as it did. -/
def fnExactChangesOfSpec : ChangeSpec := { name := "fnExactChangesOf", fn := fun _ => fun
  | [d1, d2] => { results := [.lit (.bool true)], args := [d1, d2] }
  | _ => none }
def fnExactChangesOfRow : OpenClaim := { program := "ytfpkllihfcgmaaadoor", sum := "93cbb0937d4fec428800a9ca33ab4ea9eb98b1081247ba96d062451b5278b055", func := "loop.example/snapshotfiles/laws.FnExactChangesOf", spec := "fnExactChangesOf", inPlace := ["internal/bytealg.CountString", "internal/bytealg.IndexByteString", "internal/bytealg.IndexString", "slices.overlaps[*loop.example/snapshotfiles/impl.node]"], unfollowed := true, recurses := true, named := ["unicode/utf8.first", "unicode/utf8.acceptRanges", "internal/bytealg.MaxLen"], apart := false, laid := [("unicode/utf8.acceptRanges", laid_unicode_utf8_acceptRanges), ("unicode/utf8.first", laid_unicode_utf8_first)] }
def FnExactChangesOfSaid : Prop := fnExactChangesOfRow.holds Tryd.pinned (OpenSpec.ofChange fnExactChangesOfSpec)

/-- ITS FALSE NEIGHBOUR: 'it returns false'. Refute it at one input. -/
def fnExactChangesOfWrong : ChangeSpec := { name := "fnExactChangesOf", fn := fun _ => fun
  | [d1, d2] => { results := [.lit (.bool false)], args := [d1, d2] }
  | _ => none }
def FnExactChangesOfWrongFalsely : Prop := fnExactChangesOfRow.holds Tryd.pinned (OpenSpec.ofChange fnExactChangesOfWrong)

/- THE SECOND FORM. 'bulk': how many values and letters a reading holds, each counted each time it is reached (what is shared counts as often as it is met; a slice's spare places count too). A statement '..UptoSaid' is the law's where the arguments, and the package variables that the reading takes, are together of bulk at most 1048576: NARROWER than '..Said'. Prove '..Said' where nothing that the law and all that it calls make is longer than what came in: it says more and counts as full. Else prove '..UptoSaid'. A law counts once. -/
mutual
def uptoBulk {H : Type} : DataW H → Nat
  | .lit (.string bytes) => bytes.length + 1
  | .lit _ => 1
  | .nil => 1
  | .ptr d => uptoBulk d + 1
  | .slice elems spare => uptoBulkAll elems + uptoBulkAll spare + 1
  | .agg parts => uptoBulkAll parts + 1
  | .iface _ d => uptoBulk d + 1
  | .map entries => uptoBulkEntries entries + 1
  | .held _ => 1
def uptoBulkAll {H : Type} : List (DataW H) → Nat
  | [] => 0
  | d :: r => uptoBulk d + uptoBulkAll r
def uptoBulkEntries {H : Type} : List (Lit × DataW H) → Nat
  | [] => 0
  | x :: r => uptoBulkEntry x + uptoBulkEntries r
def uptoBulkEntry {H : Type} : Lit × DataW H → Nat
  | (.string bytes, d) => bytes.length + uptoBulk d + 1
  | (_, d) => uptoBulk d + 1
 end
def uptoSmall : (H : Type) → List (DataW H) → Bool := fun _ ds => decide (uptoBulkAll ds ≤ 1048576)
def OpenSpec.upto (s : _root_.Go.ChangeSpec) : _root_.Go.OpenSpec := { _root_.Go.OpenSpec.ofChange s with cond := some uptoSmall }

/-- 'laws.FnChangesBack', WHERE WHAT IT READS IS OF BULK AT MOST 1048576: true; the input reads as it did. -/
def fnChangesBackUptoRow : OpenClaim := { program := "ytfpkllihfcgmaaadoor", sum := "93cbb0937d4fec428800a9ca33ab4ea9eb98b1081247ba96d062451b5278b055", func := "loop.example/snapshotfiles/laws.FnChangesBack", spec := "fnChangesBack", inPlace := ["internal/bytealg.CountString", "internal/bytealg.IndexByteString", "internal/bytealg.IndexString", "slices.overlaps[*loop.example/snapshotfiles/impl.node]"], unfollowed := true, recurses := true, named := ["unicode/utf8.first", "unicode/utf8.acceptRanges", "internal/bytealg.MaxLen"], apart := false, laid := [("unicode/utf8.acceptRanges", laid_unicode_utf8_acceptRanges), ("unicode/utf8.first", laid_unicode_utf8_first)], narrowed := true }
def FnChangesBackUptoSaid : Prop := fnChangesBackUptoRow.holds Tryd.pinned (OpenSpec.upto fnChangesBackSpec)

/-- 'laws.FnChangesNew', WHERE WHAT IT READS IS OF BULK AT MOST 1048576: true; the input reads as it did. -/
def fnChangesNewUptoRow : OpenClaim := { program := "ytfpkllihfcgmaaadoor", sum := "93cbb0937d4fec428800a9ca33ab4ea9eb98b1081247ba96d062451b5278b055", func := "loop.example/snapshotfiles/laws.FnChangesNew", spec := "fnChangesNew", inPlace := ["internal/bytealg.CountString", "internal/bytealg.IndexByteString", "internal/bytealg.IndexString", "slices.overlaps[*loop.example/snapshotfiles/impl.node]"], unfollowed := true, recurses := true, named := ["unicode/utf8.first", "unicode/utf8.acceptRanges", "internal/bytealg.MaxLen"], apart := false, laid := [("unicode/utf8.acceptRanges", laid_unicode_utf8_acceptRanges), ("unicode/utf8.first", laid_unicode_utf8_first)], narrowed := true }
def FnChangesNewUptoSaid : Prop := fnChangesNewUptoRow.holds Tryd.pinned (OpenSpec.upto fnChangesNewSpec)

/-- 'laws.FnChangesNone', WHERE WHAT IT READS IS OF BULK AT MOST 1048576: true; the input reads as it did. -/
def fnChangesNoneUptoRow : OpenClaim := { program := "ytfpkllihfcgmaaadoor", sum := "93cbb0937d4fec428800a9ca33ab4ea9eb98b1081247ba96d062451b5278b055", func := "loop.example/snapshotfiles/laws.FnChangesNone", spec := "fnChangesNone", inPlace := ["internal/bytealg.CountString", "internal/bytealg.IndexByteString", "internal/bytealg.IndexString", "slices.overlaps[*loop.example/snapshotfiles/impl.node]"], unfollowed := true, recurses := true, named := ["unicode/utf8.first", "unicode/utf8.acceptRanges", "internal/bytealg.MaxLen"], apart := false, laid := [("unicode/utf8.acceptRanges", laid_unicode_utf8_acceptRanges), ("unicode/utf8.first", laid_unicode_utf8_first)], narrowed := true }
def FnChangesNoneUptoSaid : Prop := fnChangesNoneUptoRow.holds Tryd.pinned (OpenSpec.upto fnChangesNoneSpec)

/-- 'laws.FnChangesKinds', WHERE WHAT IT READS IS OF BULK AT MOST 1048576: true; the input reads as it did. -/
def fnChangesKindsUptoRow : OpenClaim := { program := "ytfpkllihfcgmaaadoor", sum := "93cbb0937d4fec428800a9ca33ab4ea9eb98b1081247ba96d062451b5278b055", func := "loop.example/snapshotfiles/laws.FnChangesKinds", spec := "fnChangesKinds", inPlace := ["internal/bytealg.CountString", "internal/bytealg.IndexByteString", "internal/bytealg.IndexString", "slices.overlaps[*loop.example/snapshotfiles/impl.node]"], unfollowed := true, recurses := true, named := ["unicode/utf8.first", "unicode/utf8.acceptRanges", "internal/bytealg.MaxLen"], apart := false, laid := [("unicode/utf8.acceptRanges", laid_unicode_utf8_acceptRanges), ("unicode/utf8.first", laid_unicode_utf8_first)], narrowed := true }
def FnChangesKindsUptoSaid : Prop := fnChangesKindsUptoRow.holds Tryd.pinned (OpenSpec.upto fnChangesKindsSpec)

/-- 'laws.FnExactChangesOf', WHERE WHAT IT READS IS OF BULK AT MOST 1048576: true; the input reads as it did. -/
def fnExactChangesOfUptoRow : OpenClaim := { program := "ytfpkllihfcgmaaadoor", sum := "93cbb0937d4fec428800a9ca33ab4ea9eb98b1081247ba96d062451b5278b055", func := "loop.example/snapshotfiles/laws.FnExactChangesOf", spec := "fnExactChangesOf", inPlace := ["internal/bytealg.CountString", "internal/bytealg.IndexByteString", "internal/bytealg.IndexString", "slices.overlaps[*loop.example/snapshotfiles/impl.node]"], unfollowed := true, recurses := true, named := ["unicode/utf8.first", "unicode/utf8.acceptRanges", "internal/bytealg.MaxLen"], apart := false, laid := [("unicode/utf8.acceptRanges", laid_unicode_utf8_acceptRanges), ("unicode/utf8.first", laid_unicode_utf8_first)], narrowed := true }
def FnExactChangesOfUptoSaid : Prop := fnExactChangesOfUptoRow.holds Tryd.pinned (OpenSpec.upto fnExactChangesOfSpec)

end Rows
end Go.Proofs.YtfpkllihfcgmaaaDoor
