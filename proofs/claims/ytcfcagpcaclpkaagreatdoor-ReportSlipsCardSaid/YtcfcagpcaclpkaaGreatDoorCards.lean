/-
  DERIVED. GIVEN WITH THE SEED: THE CARDS: each row of YtcfcagpcaclpkaaGreatDoorRows.lean that lists a variable, with what it lists TIED to the program's text (the seventh form; the later family's looks); each row that meets fmt, with fmt's text TOLD by the authors' own Lean function (tested against real Go, not proved from fmt's source: count such statements apart). THE CARD IS WHAT COUNTS. Prove the row's statement (the work); the ties are given (YtcfcagpcaclpkaaGreatDoorTie.lean); close each card by the builder's one call (the guide's Derived/Test/ToyasCard.lean, 'card_holds'). Laid BY PROGRAM, IN A SANDBOX (cutbox-door.mjs). By AI agents, Wed Nov 11 2026. No macro, syntax, notation, axiom, sorry.
-/
import Derived.Test.YtcfcagpcaclpkaaGreatDoorRows
import GoSem.ClaimSeven
namespace Go.Proofs.YtcfcagpcaclpkaaGreatDoor
namespace Rows

/-- THE TIED CARD OF 'pollardlaw31.ReportSlips'. -/
def reportSlipsCard : Claim7 := { stood := { row := reportSlipsRow, standIns := [], harness := (true, "174d9d3ddc6d3f4661d34a62be61b02b1920cc919a194d99d4e8f9b43f66a958"), looks := false }, kinds := [], alts := [], laidByText := true, laidKinds := [.data, .data, .data, .data, .pinned], laidTests := true, laidLooks := .later }
def ReportSlipsCardSaid : Prop := Claim7.holds Tryz.pinned (.plain (OpenSpec.ofChange reportSlipsSpec)) reportSlipsCard

/-- THE TIED CARD OF 'pollardlaw31.ReportLines'. -/
def reportLinesCard : Claim7 := { stood := { row := reportLinesRow, standIns := [], harness := (true, "174d9d3ddc6d3f4661d34a62be61b02b1920cc919a194d99d4e8f9b43f66a958"), looks := false }, kinds := [], alts := [], laidByText := true, laidKinds := [.data, .data, .data, .data, .pinned], laidTests := true, laidLooks := .later }
def ReportLinesCardSaid : Prop := Claim7.holds Tryz.pinned (.plain (OpenSpec.ofChange reportLinesSpec)) reportLinesCard

/-- THE SECOND FORM's CARD OF 'pollardlaw31.ReportSlips'. -/
def reportSlipsUptoCard : Claim7 := { stood := { row := reportSlipsUptoRow, standIns := [], harness := (true, "174d9d3ddc6d3f4661d34a62be61b02b1920cc919a194d99d4e8f9b43f66a958"), looks := false }, kinds := [], alts := [], laidByText := true, laidKinds := [.data, .data, .data, .data, .pinned], laidTests := true, laidLooks := .later }
def ReportSlipsUptoCardSaid : Prop := Claim7.holds Tryz.pinned (.plain (OpenSpec.upto reportSlipsSpec)) reportSlipsUptoCard

/-- THE SECOND FORM's CARD OF 'pollardlaw31.ReportLines'. -/
def reportLinesUptoCard : Claim7 := { stood := { row := reportLinesUptoRow, standIns := [], harness := (true, "174d9d3ddc6d3f4661d34a62be61b02b1920cc919a194d99d4e8f9b43f66a958"), looks := false }, kinds := [], alts := [], laidByText := true, laidKinds := [.data, .data, .data, .data, .pinned], laidTests := true, laidLooks := .later }
def ReportLinesUptoCardSaid : Prop := Claim7.holds Tryz.pinned (.plain (OpenSpec.upto reportLinesSpec)) reportLinesUptoCard
end Rows
end Go.Proofs.YtcfcagpcaclpkaaGreatDoor
