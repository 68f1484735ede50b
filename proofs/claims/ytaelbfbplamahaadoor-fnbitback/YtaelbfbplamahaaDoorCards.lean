/-
  DERIVED. GIVEN WITH THE SEED: THE CARDS: each row of YtaelbfbplamahaaDoorRows.lean that lists a variable, with what it lists TIED to the program's text (the seventh form; the later family's looks); each row that meets fmt, with fmt's text TOLD by the authors' own Lean function (tested against real Go, not proved from fmt's source: count such statements apart). THE CARD IS WHAT COUNTS. Prove the row's statement (the work); the ties are given (YtaelbfbplamahaaDoorTie.lean); close each card by the builder's one call (the guide's Derived/Test/ToyasCard.lean, 'card_holds'). Laid BY PROGRAM, IN A SANDBOX (cutbox-door.mjs). By AI agents, Wed Nov 11 2026. No macro, syntax, notation, axiom, sorry.
-/
import Derived.Test.YtaelbfbplamahaaDoorRows
import GoSem.ClaimSeven
namespace Go.Proofs.YtaelbfbplamahaaDoor
namespace Rows

/-- THE TIED CARD OF 'laws.FnBitBack'. -/
def fnBitBackCard : Claim7 := { stood := { row := fnBitBackRow, standIns := [], harness := (true, "d1f0af746021e0003788bc3687148b2af7b824510501bd683ace0be08c8ed276"), looks := false }, kinds := [], alts := [], laidByText := true, laidKinds := [.data], laidTests := true, laidLooks := .later }
def FnBitBackCardSaid : Prop := Claim7.holds Tryd.pinned (.plain (OpenSpec.ofChange fnBitBackSpec)) fnBitBackCard

/-- THE SECOND FORM's CARD OF 'laws.FnBitBack'. -/
def fnBitBackUptoCard : Claim7 := { stood := { row := fnBitBackUptoRow, standIns := [], harness := (true, "d1f0af746021e0003788bc3687148b2af7b824510501bd683ace0be08c8ed276"), looks := false }, kinds := [], alts := [], laidByText := true, laidKinds := [.data], laidTests := true, laidLooks := .later }
def FnBitBackUptoCardSaid : Prop := Claim7.holds Tryd.pinned (.plain (OpenSpec.upto fnBitBackSpec)) fnBitBackUptoCard
end Rows
end Go.Proofs.YtaelbfbplamahaaDoor
