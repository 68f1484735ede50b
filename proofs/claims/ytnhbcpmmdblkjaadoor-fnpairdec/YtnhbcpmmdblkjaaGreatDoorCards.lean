/-
  DERIVED. GIVEN WITH THE SEED: THE CARDS: each row of YtnhbcpmmdblkjaaGreatDoorRows.lean that lists a variable, with what it lists TIED to the program's text (the seventh form; the later family's looks); each row that meets fmt, with fmt's text TOLD by the authors' own Lean function (tested against real Go, not proved from fmt's source: count such statements apart). THE CARD IS WHAT COUNTS. Prove the row's statement (the work); the ties are given (YtnhbcpmmdblkjaaGreatDoorTie.lean); close each card by the builder's one call (the guide's Derived/Test/ToyasCard.lean, 'card_holds'). Laid BY PROGRAM, IN A SANDBOX (cutbox-door.mjs). By AI agents, Wed Nov 11 2026. No macro, syntax, notation, axiom, sorry.
-/
import Derived.Test.YtnhbcpmmdblkjaaGreatDoorRows
import GoSem.ClaimSeven
namespace Go.Proofs.YtnhbcpmmdblkjaaGreatDoor
namespace Rows

/-- THE TIED CARD OF 'laws.FnFracText'. -/
def fnFracTextCard : Claim7 := { stood := { row := fnFracTextRow, standIns := [], harness := (true, "0fde0308789e0535af9645e8a95b7bee6397c6b74898db810ec2a973721afa9a"), looks := true }, kinds := [], alts := [], laidByText := true, laidKinds := [.data, .data, .data], laidTests := true, laidLooks := .later }
def FnFracTextCardSaid : Prop := Claim7.holds Tryz.pinned (.plain (OpenSpec.ofChange fnFracTextSpec)) fnFracTextCard

/-- THE TIED CARD OF 'laws.FnExactPairDec'. -/
def fnExactPairDecCard : Claim7 := { stood := { row := fnExactPairDecRow, standIns := [], harness := (true, "0fde0308789e0535af9645e8a95b7bee6397c6b74898db810ec2a973721afa9a"), looks := true }, kinds := [], alts := [], laidByText := true, laidKinds := [.data, .data, .data, .sentinel, .sentinel], laidTests := true, laidLooks := .later }
def FnExactPairDecCardSaid : Prop := Claim7.holds Tryz.pinned (.plain (OpenSpec.ofChange fnExactPairDecSpec)) fnExactPairDecCard

/-- THE TIED CARD OF 'laws.FnPairDec'. -/
def fnPairDecCard : Claim7 := { stood := { row := fnPairDecRow, standIns := [], harness := (true, "0fde0308789e0535af9645e8a95b7bee6397c6b74898db810ec2a973721afa9a"), looks := true }, kinds := [], alts := [], laidByText := true, laidKinds := [.data, .data, .data, .sentinel, .sentinel], laidTests := true, laidLooks := .later }
def FnPairDecCardSaid : Prop := Claim7.holds Tryz.pinned (.plain (OpenSpec.ofChange fnPairDecSpec)) fnPairDecCard

/-- THE SECOND FORM's CARD OF 'laws.FnFracText'. -/
def fnFracTextUptoCard : Claim7 := { stood := { row := fnFracTextUptoRow, standIns := [], harness := (true, "0fde0308789e0535af9645e8a95b7bee6397c6b74898db810ec2a973721afa9a"), looks := true }, kinds := [], alts := [], laidByText := true, laidKinds := [.data, .data, .data], laidTests := true, laidLooks := .later }
def FnFracTextUptoCardSaid : Prop := Claim7.holds Tryz.pinned (.plain (OpenSpec.upto fnFracTextSpec)) fnFracTextUptoCard

/-- THE SECOND FORM's CARD OF 'laws.FnExactPairDec'. -/
def fnExactPairDecUptoCard : Claim7 := { stood := { row := fnExactPairDecUptoRow, standIns := [], harness := (true, "0fde0308789e0535af9645e8a95b7bee6397c6b74898db810ec2a973721afa9a"), looks := true }, kinds := [], alts := [], laidByText := true, laidKinds := [.data, .data, .data, .sentinel, .sentinel], laidTests := true, laidLooks := .later }
def FnExactPairDecUptoCardSaid : Prop := Claim7.holds Tryz.pinned (.plain (OpenSpec.upto fnExactPairDecSpec)) fnExactPairDecUptoCard

/-- THE SECOND FORM's CARD OF 'laws.FnPairDec'. -/
def fnPairDecUptoCard : Claim7 := { stood := { row := fnPairDecUptoRow, standIns := [], harness := (true, "0fde0308789e0535af9645e8a95b7bee6397c6b74898db810ec2a973721afa9a"), looks := true }, kinds := [], alts := [], laidByText := true, laidKinds := [.data, .data, .data, .sentinel, .sentinel], laidTests := true, laidLooks := .later }
def FnPairDecUptoCardSaid : Prop := Claim7.holds Tryz.pinned (.plain (OpenSpec.upto fnPairDecSpec)) fnPairDecUptoCard
end Rows
end Go.Proofs.YtnhbcpmmdblkjaaGreatDoor
