/-
  DERIVED. GIVEN WITH THE SEED: THE CARDS: each row of YtnhbcpmmdblkjaaDoorRows.lean that lists a variable, with what it lists TIED to the program's text (the seventh form; the later family's looks); each row that meets fmt, with fmt's text TOLD by the authors' own Lean function (tested against real Go, not proved from fmt's source: count such statements apart). THE CARD IS WHAT COUNTS. Prove the row's statement (the work); the ties are given (YtnhbcpmmdblkjaaDoorTie.lean); close each card by the builder's one call (the guide's Derived/Test/ToyasCard.lean, 'card_holds'). Laid BY PROGRAM, IN A SANDBOX (cutbox-door.mjs). By AI agents, Wed Nov 11 2026. No macro, syntax, notation, axiom, sorry.
-/
import Derived.Test.YtnhbcpmmdblkjaaDoorRows
import GoSem.ClaimSeven
namespace Go.Proofs.YtnhbcpmmdblkjaaDoor
namespace Rows

/-- THE TIED CARD OF 'laws.FnExactLangTokens'. -/
def fnExactLangTokensCard : Claim7 := { stood := { row := fnExactLangTokensRow, standIns := [], harness := (true, "26abe33f3970d7b9a64047fa88c755cb4a4cb6529807aa1dc2425dbe72d917a8"), looks := true }, kinds := [], alts := [], laidByText := true, laidKinds := [.data, .data, .data, .sentinel, .sentinel], laidTests := true, laidLooks := .later }
def FnExactLangTokensCardSaid : Prop := Claim7.holds Tryd.pinned (.plain (OpenSpec.ofChange fnExactLangTokensSpec)) fnExactLangTokensCard

/-- THE TIED CARD OF 'laws.FnExactDecText'. -/
def fnExactDecTextCard : Claim7 := { stood := { row := fnExactDecTextRow, standIns := [], harness := (true, "26abe33f3970d7b9a64047fa88c755cb4a4cb6529807aa1dc2425dbe72d917a8"), looks := true }, kinds := [], alts := [], laidByText := true, laidKinds := [.data, .data, .data], laidTests := true, laidLooks := .later }
def FnExactDecTextCardSaid : Prop := Claim7.holds Tryd.pinned (.plain (OpenSpec.ofChange fnExactDecTextSpec)) fnExactDecTextCard

/-- THE TIED CARD OF 'laws.FnExactFracRead'. -/
def fnExactFracReadCard : Claim7 := { stood := { row := fnExactFracReadRow, standIns := [], harness := (true, "26abe33f3970d7b9a64047fa88c755cb4a4cb6529807aa1dc2425dbe72d917a8"), looks := true }, kinds := [], alts := [], laidByText := true, laidKinds := [.data, .data, .data], laidTests := true, laidLooks := .later }
def FnExactFracReadCardSaid : Prop := Claim7.holds Tryd.pinned (.plain (OpenSpec.ofChange fnExactFracReadSpec)) fnExactFracReadCard

/-- THE SECOND FORM's CARD OF 'laws.FnExactLangTokens'. -/
def fnExactLangTokensUptoCard : Claim7 := { stood := { row := fnExactLangTokensUptoRow, standIns := [], harness := (true, "26abe33f3970d7b9a64047fa88c755cb4a4cb6529807aa1dc2425dbe72d917a8"), looks := true }, kinds := [], alts := [], laidByText := true, laidKinds := [.data, .data, .data, .sentinel, .sentinel], laidTests := true, laidLooks := .later }
def FnExactLangTokensUptoCardSaid : Prop := Claim7.holds Tryd.pinned (.plain (OpenSpec.upto fnExactLangTokensSpec)) fnExactLangTokensUptoCard

/-- THE SECOND FORM's CARD OF 'laws.FnExactDecText'. -/
def fnExactDecTextUptoCard : Claim7 := { stood := { row := fnExactDecTextUptoRow, standIns := [], harness := (true, "26abe33f3970d7b9a64047fa88c755cb4a4cb6529807aa1dc2425dbe72d917a8"), looks := true }, kinds := [], alts := [], laidByText := true, laidKinds := [.data, .data, .data], laidTests := true, laidLooks := .later }
def FnExactDecTextUptoCardSaid : Prop := Claim7.holds Tryd.pinned (.plain (OpenSpec.upto fnExactDecTextSpec)) fnExactDecTextUptoCard

/-- THE SECOND FORM's CARD OF 'laws.FnExactFracRead'. -/
def fnExactFracReadUptoCard : Claim7 := { stood := { row := fnExactFracReadUptoRow, standIns := [], harness := (true, "26abe33f3970d7b9a64047fa88c755cb4a4cb6529807aa1dc2425dbe72d917a8"), looks := true }, kinds := [], alts := [], laidByText := true, laidKinds := [.data, .data, .data], laidTests := true, laidLooks := .later }
def FnExactFracReadUptoCardSaid : Prop := Claim7.holds Tryd.pinned (.plain (OpenSpec.upto fnExactFracReadSpec)) fnExactFracReadUptoCard
end Rows
end Go.Proofs.YtnhbcpmmdblkjaaDoor
