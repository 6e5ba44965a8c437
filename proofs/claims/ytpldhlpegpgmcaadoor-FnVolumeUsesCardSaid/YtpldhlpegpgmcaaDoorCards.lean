/-
  DERIVED. GIVEN WITH THE SEED: THE CARDS: each row of YtpldhlpegpgmcaaDoorRows.lean that lists a variable, with what it lists TIED to the program's text (the seventh form; the later family's looks); each row that meets fmt, with fmt's text TOLD by the authors' own Lean function (tested against real Go, not proved from fmt's source: count such statements apart). THE CARD IS WHAT COUNTS. Prove the row's statement (the work); the ties are given (YtpldhlpegpgmcaaDoorTie.lean); close each card by the builder's one call (the guide's Derived/Test/ToyasCard.lean, 'card_holds'). Laid BY PROGRAM, IN A SANDBOX (cutbox-door.mjs). By AI agents, Wed Nov 11 2026. No macro, syntax, notation, axiom, sorry.
-/
import Derived.Test.YtpldhlpegpgmcaaDoorRows
import GoSem.ClaimSeven
namespace Go.Proofs.YtpldhlpegpgmcaaDoor
namespace Rows

/-- THE TIED CARD OF 'laws.FnVolumePart'. -/
def fnVolumePartCard : Claim7 := { stood := { row := fnVolumePartRow, standIns := [], harness := (true, "81337bd838978ce3b1f69b0ddfe84f637a0aef51423212b8088563476b8f756c"), looks := false }, kinds := [], alts := [], laidByText := true, laidKinds := [.data, .pinned], laidTests := true, laidLooks := .later }
def FnVolumePartCardSaid : Prop := Claim7.holds Tryd.pinned (.plain (OpenSpec.ofChange fnVolumePartSpec)) fnVolumePartCard

/-- THE TIED CARD OF 'laws.FnVolumeUses'. -/
def fnVolumeUsesCard : Claim7 := { stood := { row := fnVolumeUsesRow, standIns := [], harness := (true, "81337bd838978ce3b1f69b0ddfe84f637a0aef51423212b8088563476b8f756c"), looks := false }, kinds := [], alts := [], laidByText := true, laidKinds := [.data, .pinned], laidTests := true, laidLooks := .later }
def FnVolumeUsesCardSaid : Prop := Claim7.holds Tryd.pinned (.plain (OpenSpec.ofChange fnVolumeUsesSpec)) fnVolumeUsesCard

/-- THE SECOND FORM's CARD OF 'laws.FnVolumePart'. -/
def fnVolumePartUptoCard : Claim7 := { stood := { row := fnVolumePartUptoRow, standIns := [], harness := (true, "81337bd838978ce3b1f69b0ddfe84f637a0aef51423212b8088563476b8f756c"), looks := false }, kinds := [], alts := [], laidByText := true, laidKinds := [.data, .pinned], laidTests := true, laidLooks := .later }
def FnVolumePartUptoCardSaid : Prop := Claim7.holds Tryd.pinned (.plain (OpenSpec.upto fnVolumePartSpec)) fnVolumePartUptoCard

/-- THE SECOND FORM's CARD OF 'laws.FnVolumeUses'. -/
def fnVolumeUsesUptoCard : Claim7 := { stood := { row := fnVolumeUsesUptoRow, standIns := [], harness := (true, "81337bd838978ce3b1f69b0ddfe84f637a0aef51423212b8088563476b8f756c"), looks := false }, kinds := [], alts := [], laidByText := true, laidKinds := [.data, .pinned], laidTests := true, laidLooks := .later }
def FnVolumeUsesUptoCardSaid : Prop := Claim7.holds Tryd.pinned (.plain (OpenSpec.upto fnVolumeUsesSpec)) fnVolumeUsesUptoCard
end Rows
end Go.Proofs.YtpldhlpegpgmcaaDoor
