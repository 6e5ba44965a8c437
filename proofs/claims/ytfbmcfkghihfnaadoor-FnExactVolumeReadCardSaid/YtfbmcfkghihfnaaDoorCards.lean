/-
  DERIVED. GIVEN WITH THE SEED: THE CARDS: each row of YtfbmcfkghihfnaaDoorRows.lean that lists a variable, with what it lists TIED to the program's text (the seventh form; the later family's looks); each row that meets fmt, with fmt's text TOLD by the authors' own Lean function (tested against real Go, not proved from fmt's source: count such statements apart). THE CARD IS WHAT COUNTS. Prove the row's statement (the work); the ties are given (YtfbmcfkghihfnaaDoorTie.lean); close each card by the builder's one call (the guide's Derived/Test/ToyasCard.lean, 'card_holds'). Laid BY PROGRAM, IN A SANDBOX (cutbox-door.mjs). By AI agents, Wed Nov 11 2026. No macro, syntax, notation, axiom, sorry.
-/
import Derived.Test.YtfbmcfkghihfnaaDoorRows
import GoSem.ClaimSeven
namespace Go.Proofs.YtfbmcfkghihfnaaDoor
namespace Rows

/-- THE TIED CARD OF 'laws.FnExactVolumeValid'. -/
def fnExactVolumeValidCard : Claim7 := { stood := { row := fnExactVolumeValidRow, standIns := [], harness := (true, "54fd0a9fc2f37809d097a473f16b69c771e66e26fb4039da5308278c2eadc085"), looks := false }, kinds := [], alts := [], laidByText := true, laidKinds := [.data, .pinned], laidTests := true, laidLooks := .later }
def FnExactVolumeValidCardSaid : Prop := Claim7.holds Tryd.pinned (.plain (OpenSpec.ofChange fnExactVolumeValidSpec)) fnExactVolumeValidCard

/-- THE TIED CARD OF 'laws.FnExactVolumeRead'. -/
def fnExactVolumeReadCard : Claim7 := { stood := { row := fnExactVolumeReadRow, standIns := [], harness := (true, "54fd0a9fc2f37809d097a473f16b69c771e66e26fb4039da5308278c2eadc085"), looks := false }, kinds := [], alts := [], laidByText := true, laidKinds := [.data, .pinned], laidTests := true, laidLooks := .later }
def FnExactVolumeReadCardSaid : Prop := Claim7.holds Tryd.pinned (.plain (OpenSpec.ofChange fnExactVolumeReadSpec)) fnExactVolumeReadCard

/-- THE TIED CARD OF 'laws.FnExactDiskValid'. -/
def fnExactDiskValidCard : Claim7 := { stood := { row := fnExactDiskValidRow, standIns := [], harness := (true, "54fd0a9fc2f37809d097a473f16b69c771e66e26fb4039da5308278c2eadc085"), looks := false }, kinds := [], alts := [], laidByText := true, laidKinds := [.data, .pinned], laidTests := true, laidLooks := .later }
def FnExactDiskValidCardSaid : Prop := Claim7.holds Tryd.pinned (.plain (OpenSpec.ofChange fnExactDiskValidSpec)) fnExactDiskValidCard

/-- THE SECOND FORM's CARD OF 'laws.FnExactVolumeValid'. -/
def fnExactVolumeValidUptoCard : Claim7 := { stood := { row := fnExactVolumeValidUptoRow, standIns := [], harness := (true, "54fd0a9fc2f37809d097a473f16b69c771e66e26fb4039da5308278c2eadc085"), looks := false }, kinds := [], alts := [], laidByText := true, laidKinds := [.data, .pinned], laidTests := true, laidLooks := .later }
def FnExactVolumeValidUptoCardSaid : Prop := Claim7.holds Tryd.pinned (.plain (OpenSpec.upto fnExactVolumeValidSpec)) fnExactVolumeValidUptoCard

/-- THE SECOND FORM's CARD OF 'laws.FnExactVolumeRead'. -/
def fnExactVolumeReadUptoCard : Claim7 := { stood := { row := fnExactVolumeReadUptoRow, standIns := [], harness := (true, "54fd0a9fc2f37809d097a473f16b69c771e66e26fb4039da5308278c2eadc085"), looks := false }, kinds := [], alts := [], laidByText := true, laidKinds := [.data, .pinned], laidTests := true, laidLooks := .later }
def FnExactVolumeReadUptoCardSaid : Prop := Claim7.holds Tryd.pinned (.plain (OpenSpec.upto fnExactVolumeReadSpec)) fnExactVolumeReadUptoCard

/-- THE SECOND FORM's CARD OF 'laws.FnExactDiskValid'. -/
def fnExactDiskValidUptoCard : Claim7 := { stood := { row := fnExactDiskValidUptoRow, standIns := [], harness := (true, "54fd0a9fc2f37809d097a473f16b69c771e66e26fb4039da5308278c2eadc085"), looks := false }, kinds := [], alts := [], laidByText := true, laidKinds := [.data, .pinned], laidTests := true, laidLooks := .later }
def FnExactDiskValidUptoCardSaid : Prop := Claim7.holds Tryd.pinned (.plain (OpenSpec.upto fnExactDiskValidSpec)) fnExactDiskValidUptoCard
end Rows
end Go.Proofs.YtfbmcfkghihfnaaDoor
