/-
  DERIVED. GIVEN WITH THE SEED: THE CARDS: each row of YtgabephijgjogaaDoorRows.lean that lists a variable, with what it lists TIED to the program's text (the seventh form; the later family's looks); each row that meets fmt, with fmt's text TOLD by the authors' own Lean function (tested against real Go, not proved from fmt's source: count such statements apart). THE CARD IS WHAT COUNTS. Prove the row's statement (the work); the ties are given (YtgabephijgjogaaDoorTie.lean); close each card by the builder's one call (the guide's Derived/Test/ToyasCard.lean, 'card_holds'). Laid BY PROGRAM, IN A SANDBOX (cutbox-door.mjs). By AI agents, Wed Nov 11 2026. No macro, syntax, notation, axiom, sorry.
-/
import Derived.Test.YtgabephijgjogaaDoorRows
import GoSem.ClaimSeven
namespace Go.Proofs.YtgabephijgjogaaDoor
namespace Rows

/-- THE TIED CARD OF 'laws.FnExactNatText'. -/
def fnExactNatTextCard : Claim7 := { stood := { row := fnExactNatTextRow, standIns := [], harness := (true, "f79c87a3709e01137552f056f70353a207c3ce400bb35324e7c62595eff5a29a"), looks := false }, kinds := [], alts := [], laidByText := true, laidKinds := [.data, .data, .data], laidTests := true, laidLooks := .later }
def FnExactNatTextCardSaid : Prop := Claim7.holds Tryd.pinned (.plain (OpenSpec.ofChange fnExactNatTextSpec)) fnExactNatTextCard

/-- THE TIED CARD OF 'laws.FnNatText'. -/
def fnNatTextCard : Claim7 := { stood := { row := fnNatTextRow, standIns := [], harness := (true, "f79c87a3709e01137552f056f70353a207c3ce400bb35324e7c62595eff5a29a"), looks := false }, kinds := [], alts := [], laidByText := true, laidKinds := [.data, .data, .data], laidTests := true, laidLooks := .later }
def FnNatTextCardSaid : Prop := Claim7.holds Tryd.pinned (.plain (OpenSpec.ofChange fnNatTextSpec)) fnNatTextCard

/-- THE SECOND FORM's CARD OF 'laws.FnExactNatText'. -/
def fnExactNatTextUptoCard : Claim7 := { stood := { row := fnExactNatTextUptoRow, standIns := [], harness := (true, "f79c87a3709e01137552f056f70353a207c3ce400bb35324e7c62595eff5a29a"), looks := false }, kinds := [], alts := [], laidByText := true, laidKinds := [.data, .data, .data], laidTests := true, laidLooks := .later }
def FnExactNatTextUptoCardSaid : Prop := Claim7.holds Tryd.pinned (.plain (OpenSpec.upto fnExactNatTextSpec)) fnExactNatTextUptoCard

/-- THE SECOND FORM's CARD OF 'laws.FnNatText'. -/
def fnNatTextUptoCard : Claim7 := { stood := { row := fnNatTextUptoRow, standIns := [], harness := (true, "f79c87a3709e01137552f056f70353a207c3ce400bb35324e7c62595eff5a29a"), looks := false }, kinds := [], alts := [], laidByText := true, laidKinds := [.data, .data, .data], laidTests := true, laidLooks := .later }
def FnNatTextUptoCardSaid : Prop := Claim7.holds Tryd.pinned (.plain (OpenSpec.upto fnNatTextSpec)) fnNatTextUptoCard
end Rows
end Go.Proofs.YtgabephijgjogaaDoor
