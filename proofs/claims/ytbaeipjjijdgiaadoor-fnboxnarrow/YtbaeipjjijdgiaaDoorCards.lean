/-
  DERIVED. GIVEN WITH THE SEED: THE CARDS: each row of YtbaeipjjijdgiaaDoorRows.lean that lists a variable, with what it lists TIED to the program's text (the seventh form; the later family's looks); each row that meets fmt, with fmt's text TOLD by the authors' own Lean function (tested against real Go, not proved from fmt's source: count such statements apart). THE CARD IS WHAT COUNTS. Prove the row's statement (the work); the ties are given (YtbaeipjjijdgiaaDoorTie.lean); close each card by the builder's one call (the guide's Derived/Test/ToyasCard.lean, 'card_holds'). Laid BY PROGRAM, IN A SANDBOX (cutbox-door.mjs). By AI agents, Wed Nov 11 2026. No macro, syntax, notation, axiom, sorry.
-/
import Derived.Test.YtbaeipjjijdgiaaDoorRows
import GoSem.ClaimSeven
namespace Go.Proofs.YtbaeipjjijdgiaaDoor
namespace Rows

/-- THE TIED CARD OF 'laws.FnExactPairLess'. -/
def fnExactPairLessCard : Claim7 := { stood := { row := fnExactPairLessRow, standIns := [], harness := (true, "e3a4c06ffe338a18ebec8d80586837be3ba506c64b84f4a46c8e1387f5cf510a"), looks := false }, kinds := [], alts := [], laidByText := true, laidKinds := [.data], laidTests := true, laidLooks := .later }
def FnExactPairLessCardSaid : Prop := Claim7.holds Tryd.pinned (.plain (OpenSpec.ofChange fnExactPairLessSpec)) fnExactPairLessCard

/-- THE TIED CARD OF 'laws.FnBitCross'. -/
def fnBitCrossCard : Claim7 := { stood := { row := fnBitCrossRow, standIns := [], harness := (true, "e3a4c06ffe338a18ebec8d80586837be3ba506c64b84f4a46c8e1387f5cf510a"), looks := false }, kinds := [], alts := [], laidByText := true, laidKinds := [.data], laidTests := true, laidLooks := .later }
def FnBitCrossCardSaid : Prop := Claim7.holds Tryd.pinned (.plain (OpenSpec.ofChange fnBitCrossSpec)) fnBitCrossCard

/-- THE TIED CARD OF 'laws.FnExactBoxMore'. -/
def fnExactBoxMoreCard : Claim7 := { stood := { row := fnExactBoxMoreRow, standIns := [], harness := (true, "e3a4c06ffe338a18ebec8d80586837be3ba506c64b84f4a46c8e1387f5cf510a"), looks := false }, kinds := [], alts := [], laidByText := true, laidKinds := [.data], laidTests := true, laidLooks := .later }
def FnExactBoxMoreCardSaid : Prop := Claim7.holds Tryd.pinned (.plain (OpenSpec.ofChange fnExactBoxMoreSpec)) fnExactBoxMoreCard

/-- THE TIED CARD OF 'laws.FnExactBoxLess'. -/
def fnExactBoxLessCard : Claim7 := { stood := { row := fnExactBoxLessRow, standIns := [], harness := (true, "e3a4c06ffe338a18ebec8d80586837be3ba506c64b84f4a46c8e1387f5cf510a"), looks := false }, kinds := [], alts := [], laidByText := true, laidKinds := [.data], laidTests := true, laidLooks := .later }
def FnExactBoxLessCardSaid : Prop := Claim7.holds Tryd.pinned (.plain (OpenSpec.ofChange fnExactBoxLessSpec)) fnExactBoxLessCard

/-- THE TIED CARD OF 'laws.FnBoxNarrow'. -/
def fnBoxNarrowCard : Claim7 := { stood := { row := fnBoxNarrowRow, standIns := [], harness := (true, "e3a4c06ffe338a18ebec8d80586837be3ba506c64b84f4a46c8e1387f5cf510a"), looks := false }, kinds := [], alts := [], laidByText := true, laidKinds := [.data], laidTests := true, laidLooks := .later }
def FnBoxNarrowCardSaid : Prop := Claim7.holds Tryd.pinned (.plain (OpenSpec.ofChange fnBoxNarrowSpec)) fnBoxNarrowCard

/-- THE SECOND FORM's CARD OF 'laws.FnExactPairLess'. -/
def fnExactPairLessUptoCard : Claim7 := { stood := { row := fnExactPairLessUptoRow, standIns := [], harness := (true, "e3a4c06ffe338a18ebec8d80586837be3ba506c64b84f4a46c8e1387f5cf510a"), looks := false }, kinds := [], alts := [], laidByText := true, laidKinds := [.data], laidTests := true, laidLooks := .later }
def FnExactPairLessUptoCardSaid : Prop := Claim7.holds Tryd.pinned (.plain (OpenSpec.upto fnExactPairLessSpec)) fnExactPairLessUptoCard

/-- THE SECOND FORM's CARD OF 'laws.FnBitCross'. -/
def fnBitCrossUptoCard : Claim7 := { stood := { row := fnBitCrossUptoRow, standIns := [], harness := (true, "e3a4c06ffe338a18ebec8d80586837be3ba506c64b84f4a46c8e1387f5cf510a"), looks := false }, kinds := [], alts := [], laidByText := true, laidKinds := [.data], laidTests := true, laidLooks := .later }
def FnBitCrossUptoCardSaid : Prop := Claim7.holds Tryd.pinned (.plain (OpenSpec.upto fnBitCrossSpec)) fnBitCrossUptoCard

/-- THE SECOND FORM's CARD OF 'laws.FnExactBoxMore'. -/
def fnExactBoxMoreUptoCard : Claim7 := { stood := { row := fnExactBoxMoreUptoRow, standIns := [], harness := (true, "e3a4c06ffe338a18ebec8d80586837be3ba506c64b84f4a46c8e1387f5cf510a"), looks := false }, kinds := [], alts := [], laidByText := true, laidKinds := [.data], laidTests := true, laidLooks := .later }
def FnExactBoxMoreUptoCardSaid : Prop := Claim7.holds Tryd.pinned (.plain (OpenSpec.upto fnExactBoxMoreSpec)) fnExactBoxMoreUptoCard

/-- THE SECOND FORM's CARD OF 'laws.FnExactBoxLess'. -/
def fnExactBoxLessUptoCard : Claim7 := { stood := { row := fnExactBoxLessUptoRow, standIns := [], harness := (true, "e3a4c06ffe338a18ebec8d80586837be3ba506c64b84f4a46c8e1387f5cf510a"), looks := false }, kinds := [], alts := [], laidByText := true, laidKinds := [.data], laidTests := true, laidLooks := .later }
def FnExactBoxLessUptoCardSaid : Prop := Claim7.holds Tryd.pinned (.plain (OpenSpec.upto fnExactBoxLessSpec)) fnExactBoxLessUptoCard

/-- THE SECOND FORM's CARD OF 'laws.FnBoxNarrow'. -/
def fnBoxNarrowUptoCard : Claim7 := { stood := { row := fnBoxNarrowUptoRow, standIns := [], harness := (true, "e3a4c06ffe338a18ebec8d80586837be3ba506c64b84f4a46c8e1387f5cf510a"), looks := false }, kinds := [], alts := [], laidByText := true, laidKinds := [.data], laidTests := true, laidLooks := .later }
def FnBoxNarrowUptoCardSaid : Prop := Claim7.holds Tryd.pinned (.plain (OpenSpec.upto fnBoxNarrowSpec)) fnBoxNarrowUptoCard
end Rows
end Go.Proofs.YtbaeipjjijdgiaaDoor
