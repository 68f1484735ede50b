/-
  DERIVED. GIVEN WITH THE SEED: THE CARDS: each row of YtlbihmicbncdiaaDoorRows.lean that lists a variable, with what it lists TIED to the program's text (the seventh form; the later family's looks); each row that meets fmt, with fmt's text TOLD by the authors' own Lean function (tested against real Go, not proved from fmt's source: count such statements apart). THE CARD IS WHAT COUNTS. Prove the row's statement (the work); the ties are given (YtlbihmicbncdiaaDoorTie.lean); close each card by the builder's one call (the guide's Derived/Test/ToyasCard.lean, 'card_holds'). Laid BY PROGRAM, IN A SANDBOX (cutbox-door.mjs). By AI agents, Wed Nov 11 2026. No macro, syntax, notation, axiom, sorry.
-/
import Derived.Test.YtlbihmicbncdiaaDoorRows
import GoSem.ClaimSeven
namespace Go.Proofs.YtlbihmicbncdiaaDoor
namespace Rows

/-- THE TIED CARD OF 'laws.FnExactFloatDown'. -/
def fnExactFloatDownCard : Claim7 := { stood := { row := fnExactFloatDownRow, standIns := [], harness := (true, "75954d586615bda880111a4df3a756fd779c92cac687d956d65070072e2846a8"), looks := false }, kinds := [], alts := [], laidByText := true, laidKinds := [.data], laidTests := true, laidLooks := .later }
def FnExactFloatDownCardSaid : Prop := Claim7.holds Tryd.pinned (.plain (OpenSpec.ofChange fnExactFloatDownSpec)) fnExactFloatDownCard

/-- THE TIED CARD OF 'laws.FnExactFloatUp'. -/
def fnExactFloatUpCard : Claim7 := { stood := { row := fnExactFloatUpRow, standIns := [], harness := (true, "75954d586615bda880111a4df3a756fd779c92cac687d956d65070072e2846a8"), looks := false }, kinds := [], alts := [], laidByText := true, laidKinds := [.data], laidTests := true, laidLooks := .later }
def FnExactFloatUpCardSaid : Prop := Claim7.holds Tryd.pinned (.plain (OpenSpec.ofChange fnExactFloatUpSpec)) fnExactFloatUpCard

/-- THE TIED CARD OF 'laws.FnExactPairFrac'. -/
def fnExactPairFracCard : Claim7 := { stood := { row := fnExactPairFracRow, standIns := [], harness := (true, "75954d586615bda880111a4df3a756fd779c92cac687d956d65070072e2846a8"), looks := false }, kinds := [], alts := [], laidByText := true, laidKinds := [.data], laidTests := true, laidLooks := .later }
def FnExactPairFracCardSaid : Prop := Claim7.holds Tryd.pinned (.plain (OpenSpec.ofChange fnExactPairFracSpec)) fnExactPairFracCard

/-- THE TIED CARD OF 'laws.FnExactSpanPow'. -/
def fnExactSpanPowCard : Claim7 := { stood := { row := fnExactSpanPowRow, standIns := [], harness := (true, "75954d586615bda880111a4df3a756fd779c92cac687d956d65070072e2846a8"), looks := false }, kinds := [], alts := [], laidByText := true, laidKinds := [.data], laidTests := true, laidLooks := .later }
def FnExactSpanPowCardSaid : Prop := Claim7.holds Tryd.pinned (.plain (OpenSpec.ofChange fnExactSpanPowSpec)) fnExactSpanPowCard

/-- THE TIED CARD OF 'laws.FnExactBackRoot'. -/
def fnExactBackRootCard : Claim7 := { stood := { row := fnExactBackRootRow, standIns := [], harness := (true, "75954d586615bda880111a4df3a756fd779c92cac687d956d65070072e2846a8"), looks := false }, kinds := [], alts := [], laidByText := true, laidKinds := [.data], laidTests := true, laidLooks := .later }
def FnExactBackRootCardSaid : Prop := Claim7.holds Tryd.pinned (.plain (OpenSpec.ofChange fnExactBackRootSpec)) fnExactBackRootCard

/-- THE SECOND FORM's CARD OF 'laws.FnExactFloatDown'. -/
def fnExactFloatDownUptoCard : Claim7 := { stood := { row := fnExactFloatDownUptoRow, standIns := [], harness := (true, "75954d586615bda880111a4df3a756fd779c92cac687d956d65070072e2846a8"), looks := false }, kinds := [], alts := [], laidByText := true, laidKinds := [.data], laidTests := true, laidLooks := .later }
def FnExactFloatDownUptoCardSaid : Prop := Claim7.holds Tryd.pinned (.plain (OpenSpec.upto fnExactFloatDownSpec)) fnExactFloatDownUptoCard

/-- THE SECOND FORM's CARD OF 'laws.FnExactFloatUp'. -/
def fnExactFloatUpUptoCard : Claim7 := { stood := { row := fnExactFloatUpUptoRow, standIns := [], harness := (true, "75954d586615bda880111a4df3a756fd779c92cac687d956d65070072e2846a8"), looks := false }, kinds := [], alts := [], laidByText := true, laidKinds := [.data], laidTests := true, laidLooks := .later }
def FnExactFloatUpUptoCardSaid : Prop := Claim7.holds Tryd.pinned (.plain (OpenSpec.upto fnExactFloatUpSpec)) fnExactFloatUpUptoCard

/-- THE SECOND FORM's CARD OF 'laws.FnExactPairFrac'. -/
def fnExactPairFracUptoCard : Claim7 := { stood := { row := fnExactPairFracUptoRow, standIns := [], harness := (true, "75954d586615bda880111a4df3a756fd779c92cac687d956d65070072e2846a8"), looks := false }, kinds := [], alts := [], laidByText := true, laidKinds := [.data], laidTests := true, laidLooks := .later }
def FnExactPairFracUptoCardSaid : Prop := Claim7.holds Tryd.pinned (.plain (OpenSpec.upto fnExactPairFracSpec)) fnExactPairFracUptoCard

/-- THE SECOND FORM's CARD OF 'laws.FnExactSpanPow'. -/
def fnExactSpanPowUptoCard : Claim7 := { stood := { row := fnExactSpanPowUptoRow, standIns := [], harness := (true, "75954d586615bda880111a4df3a756fd779c92cac687d956d65070072e2846a8"), looks := false }, kinds := [], alts := [], laidByText := true, laidKinds := [.data], laidTests := true, laidLooks := .later }
def FnExactSpanPowUptoCardSaid : Prop := Claim7.holds Tryd.pinned (.plain (OpenSpec.upto fnExactSpanPowSpec)) fnExactSpanPowUptoCard

/-- THE SECOND FORM's CARD OF 'laws.FnExactBackRoot'. -/
def fnExactBackRootUptoCard : Claim7 := { stood := { row := fnExactBackRootUptoRow, standIns := [], harness := (true, "75954d586615bda880111a4df3a756fd779c92cac687d956d65070072e2846a8"), looks := false }, kinds := [], alts := [], laidByText := true, laidKinds := [.data], laidTests := true, laidLooks := .later }
def FnExactBackRootUptoCardSaid : Prop := Claim7.holds Tryd.pinned (.plain (OpenSpec.upto fnExactBackRootSpec)) fnExactBackRootUptoCard
end Rows
end Go.Proofs.YtlbihmicbncdiaaDoor
