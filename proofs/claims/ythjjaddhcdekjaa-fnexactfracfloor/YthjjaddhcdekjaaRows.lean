/-
  No cell of these rows narrows 'for every input' (looked for: loops, veiled, ifaces, maps, wideKeys, modest, calm, conditions, laid).
  DERIVED. THE GIVEN ROWS OF THIS SEAT. 11 by the template 'for every input the law returns true; each argument reads behind the call as it read before'; 0 by the template 'total and deterministic' (their statements: YthjjaddhcdekjaaTotals.lean).
  GIVEN WITH THE SEED: the statements are not yours to turn. If you find one false, say at which input.
  Laid BY PROGRAM, IN A SANDBOX (cutbox-rows.mjs): the forced cells as the released guide's own fill.sh prints them over the translation a7d447ed63beaf03… (all of the seat's roots in one cut). By AI agents, Wed Nov 11 2026. No macro, syntax, notation, axiom, sorry.
-/
import Derived.Test.YthjjaddhcdekjaaChecked
import GoSem.Claim
import GoSem.ClaimJoined
import GoSem.ClaimMapViews
import Derived.JoinedTies
import Derived.KernelRfl
namespace Go.Proofs.Ythjjaddhcdekjaa
/- THE CELL 'sum', in the pinned program and in every row, IS THE sha256 OF THE DUMP (.gsa) THAT YthjjaddhcdekjaaProg.lean LOADS. Nothing in Lean hashes anything: it is a label: what it is worth is what the hold of that sum in a sandbox is worth. -/
noncomputable def Try.pinned : Pinned := { name := "ythjjaddhcdekjaa", sum := "a7d447ed63beaf03eb0e778a6bf83f85df2890f37fe1185d3c5b89caf93a3cf1", checked := Try.checked }
namespace Rows
def none {H : Type} : Left H := { results := [], args := [] }

/-- 'laws.FnExactFracOk': WHATEVER THE INPUT: true; the input reads as it did. -/
def fnExactFracOkSpec : ChangeSpec := { name := "fnExactFracOk", fn := fun _ => fun
  | [d] => { results := [.lit (.bool true)], args := [d] }
  | _ => none }
def fnExactFracOkRow : OpenClaim := { program := "ythjjaddhcdekjaa", sum := "a7d447ed63beaf03eb0e778a6bf83f85df2890f37fe1185d3c5b89caf93a3cf1", func := "loop.example/pinfold/laws.FnExactFracOk", spec := "fnExactFracOk", unfollowed := true, recurses := true, apart := false }
def FnExactFracOkSaid : Prop := fnExactFracOkRow.holds Try.pinned (OpenSpec.ofChange fnExactFracOkSpec)

/-- ITS FALSE NEIGHBOUR: 'it returns false'. Refute it at one input. -/
def fnExactFracOkWrong : ChangeSpec := { name := "fnExactFracOk", fn := fun _ => fun
  | [d] => { results := [.lit (.bool false)], args := [d] }
  | _ => none }
def FnExactFracOkWrongFalsely : Prop := fnExactFracOkRow.holds Try.pinned (OpenSpec.ofChange fnExactFracOkWrong)

/-- 'laws.FnExactFracSign': WHATEVER THE INPUT: true; the input reads as it did. -/
def fnExactFracSignSpec : ChangeSpec := { name := "fnExactFracSign", fn := fun _ => fun
  | [d] => { results := [.lit (.bool true)], args := [d] }
  | _ => none }
def fnExactFracSignRow : OpenClaim := { program := "ythjjaddhcdekjaa", sum := "a7d447ed63beaf03eb0e778a6bf83f85df2890f37fe1185d3c5b89caf93a3cf1", func := "loop.example/pinfold/laws.FnExactFracSign", spec := "fnExactFracSign", unfollowed := true, recurses := true, apart := false }
def FnExactFracSignSaid : Prop := fnExactFracSignRow.holds Try.pinned (OpenSpec.ofChange fnExactFracSignSpec)

/-- ITS FALSE NEIGHBOUR: 'it returns false'. Refute it at one input. -/
def fnExactFracSignWrong : ChangeSpec := { name := "fnExactFracSign", fn := fun _ => fun
  | [d] => { results := [.lit (.bool false)], args := [d] }
  | _ => none }
def FnExactFracSignWrongFalsely : Prop := fnExactFracSignRow.holds Try.pinned (OpenSpec.ofChange fnExactFracSignWrong)

/-- 'laws.FnExactFracOf': WHATEVER THE INPUT: true; the input reads as it did. -/
def fnExactFracOfSpec : ChangeSpec := { name := "fnExactFracOf", fn := fun _ => fun
  | [d1, d2, d3] => { results := [.lit (.bool true)], args := [d1, d2, d3] }
  | _ => none }
def fnExactFracOfRow : OpenClaim := { program := "ythjjaddhcdekjaa", sum := "a7d447ed63beaf03eb0e778a6bf83f85df2890f37fe1185d3c5b89caf93a3cf1", func := "loop.example/pinfold/laws.FnExactFracOf", spec := "fnExactFracOf", unfollowed := true, recurses := true, apart := false }
def FnExactFracOfSaid : Prop := fnExactFracOfRow.holds Try.pinned (OpenSpec.ofChange fnExactFracOfSpec)

/-- ITS FALSE NEIGHBOUR: 'it returns false'. Refute it at one input. -/
def fnExactFracOfWrong : ChangeSpec := { name := "fnExactFracOf", fn := fun _ => fun
  | [d1, d2, d3] => { results := [.lit (.bool false)], args := [d1, d2, d3] }
  | _ => none }
def FnExactFracOfWrongFalsely : Prop := fnExactFracOfRow.holds Try.pinned (OpenSpec.ofChange fnExactFracOfWrong)

/-- 'laws.FnExactFracAbs': WHATEVER THE INPUT: true; the input reads as it did. -/
def fnExactFracAbsSpec : ChangeSpec := { name := "fnExactFracAbs", fn := fun _ => fun
  | [d] => { results := [.lit (.bool true)], args := [d] }
  | _ => none }
def fnExactFracAbsRow : OpenClaim := { program := "ythjjaddhcdekjaa", sum := "a7d447ed63beaf03eb0e778a6bf83f85df2890f37fe1185d3c5b89caf93a3cf1", func := "loop.example/pinfold/laws.FnExactFracAbs", spec := "fnExactFracAbs", unfollowed := true, recurses := true, apart := false }
def FnExactFracAbsSaid : Prop := fnExactFracAbsRow.holds Try.pinned (OpenSpec.ofChange fnExactFracAbsSpec)

/-- ITS FALSE NEIGHBOUR: 'it returns false'. Refute it at one input. -/
def fnExactFracAbsWrong : ChangeSpec := { name := "fnExactFracAbs", fn := fun _ => fun
  | [d] => { results := [.lit (.bool false)], args := [d] }
  | _ => none }
def FnExactFracAbsWrongFalsely : Prop := fnExactFracAbsRow.holds Try.pinned (OpenSpec.ofChange fnExactFracAbsWrong)

/-- 'laws.FnExactFracCmp': WHATEVER THE INPUT: true; the input reads as it did. -/
def fnExactFracCmpSpec : ChangeSpec := { name := "fnExactFracCmp", fn := fun _ => fun
  | [d1, d2] => { results := [.lit (.bool true)], args := [d1, d2] }
  | _ => none }
def fnExactFracCmpRow : OpenClaim := { program := "ythjjaddhcdekjaa", sum := "a7d447ed63beaf03eb0e778a6bf83f85df2890f37fe1185d3c5b89caf93a3cf1", func := "loop.example/pinfold/laws.FnExactFracCmp", spec := "fnExactFracCmp", unfollowed := true, recurses := true, apart := false }
def FnExactFracCmpSaid : Prop := fnExactFracCmpRow.holds Try.pinned (OpenSpec.ofChange fnExactFracCmpSpec)

/-- ITS FALSE NEIGHBOUR: 'it returns false'. Refute it at one input. -/
def fnExactFracCmpWrong : ChangeSpec := { name := "fnExactFracCmp", fn := fun _ => fun
  | [d1, d2] => { results := [.lit (.bool false)], args := [d1, d2] }
  | _ => none }
def FnExactFracCmpWrongFalsely : Prop := fnExactFracCmpRow.holds Try.pinned (OpenSpec.ofChange fnExactFracCmpWrong)

/-- 'laws.FnFracMake': WHATEVER THE INPUT: true; the input reads as it did. -/
def fnFracMakeSpec : ChangeSpec := { name := "fnFracMake", fn := fun _ => fun
  | [d1, d2] => { results := [.lit (.bool true)], args := [d1, d2] }
  | _ => none }
def fnFracMakeRow : OpenClaim := { program := "ythjjaddhcdekjaa", sum := "a7d447ed63beaf03eb0e778a6bf83f85df2890f37fe1185d3c5b89caf93a3cf1", func := "loop.example/pinfold/laws.FnFracMake", spec := "fnFracMake", unfollowed := true, recurses := true, apart := false }
def FnFracMakeSaid : Prop := fnFracMakeRow.holds Try.pinned (OpenSpec.ofChange fnFracMakeSpec)

/-- ITS FALSE NEIGHBOUR: 'it returns false'. Refute it at one input. -/
def fnFracMakeWrong : ChangeSpec := { name := "fnFracMake", fn := fun _ => fun
  | [d1, d2] => { results := [.lit (.bool false)], args := [d1, d2] }
  | _ => none }
def FnFracMakeWrongFalsely : Prop := fnFracMakeRow.holds Try.pinned (OpenSpec.ofChange fnFracMakeWrong)

/-- 'laws.FnExactRelHolds': WHATEVER THE INPUT: true; the input reads as it did. -/
def fnExactRelHoldsSpec : ChangeSpec := { name := "fnExactRelHolds", fn := fun _ => fun
  | [d1, d2, d3] => { results := [.lit (.bool true)], args := [d1, d2, d3] }
  | _ => none }
def fnExactRelHoldsRow : OpenClaim := { program := "ythjjaddhcdekjaa", sum := "a7d447ed63beaf03eb0e778a6bf83f85df2890f37fe1185d3c5b89caf93a3cf1", func := "loop.example/pinfold/laws.FnExactRelHolds", spec := "fnExactRelHolds", unfollowed := true, recurses := true, apart := false }
def FnExactRelHoldsSaid : Prop := fnExactRelHoldsRow.holds Try.pinned (OpenSpec.ofChange fnExactRelHoldsSpec)

/-- ITS FALSE NEIGHBOUR: 'it returns false'. Refute it at one input. -/
def fnExactRelHoldsWrong : ChangeSpec := { name := "fnExactRelHolds", fn := fun _ => fun
  | [d1, d2, d3] => { results := [.lit (.bool false)], args := [d1, d2, d3] }
  | _ => none }
def FnExactRelHoldsWrongFalsely : Prop := fnExactRelHoldsRow.holds Try.pinned (OpenSpec.ofChange fnExactRelHoldsWrong)

/-- 'laws.FnExactFracFloor': WHATEVER THE INPUT: true; the input reads as it did. -/
def fnExactFracFloorSpec : ChangeSpec := { name := "fnExactFracFloor", fn := fun _ => fun
  | [d] => { results := [.lit (.bool true)], args := [d] }
  | _ => none }
def fnExactFracFloorRow : OpenClaim := { program := "ythjjaddhcdekjaa", sum := "a7d447ed63beaf03eb0e778a6bf83f85df2890f37fe1185d3c5b89caf93a3cf1", func := "loop.example/pinfold/laws.FnExactFracFloor", spec := "fnExactFracFloor", unfollowed := true, recurses := true, apart := false }
def FnExactFracFloorSaid : Prop := fnExactFracFloorRow.holds Try.pinned (OpenSpec.ofChange fnExactFracFloorSpec)

/-- ITS FALSE NEIGHBOUR: 'it returns false'. Refute it at one input. -/
def fnExactFracFloorWrong : ChangeSpec := { name := "fnExactFracFloor", fn := fun _ => fun
  | [d] => { results := [.lit (.bool false)], args := [d] }
  | _ => none }
def FnExactFracFloorWrongFalsely : Prop := fnExactFracFloorRow.holds Try.pinned (OpenSpec.ofChange fnExactFracFloorWrong)

/-- 'laws.FnExactFracPow': WHATEVER THE INPUT: true; the input reads as it did. -/
def fnExactFracPowSpec : ChangeSpec := { name := "fnExactFracPow", fn := fun _ => fun
  | [d1, d2] => { results := [.lit (.bool true)], args := [d1, d2] }
  | _ => none }
def fnExactFracPowRow : OpenClaim := { program := "ythjjaddhcdekjaa", sum := "a7d447ed63beaf03eb0e778a6bf83f85df2890f37fe1185d3c5b89caf93a3cf1", func := "loop.example/pinfold/laws.FnExactFracPow", spec := "fnExactFracPow", unfollowed := true, recurses := true, apart := false }
def FnExactFracPowSaid : Prop := fnExactFracPowRow.holds Try.pinned (OpenSpec.ofChange fnExactFracPowSpec)

/-- ITS FALSE NEIGHBOUR: 'it returns false'. Refute it at one input. -/
def fnExactFracPowWrong : ChangeSpec := { name := "fnExactFracPow", fn := fun _ => fun
  | [d1, d2] => { results := [.lit (.bool false)], args := [d1, d2] }
  | _ => none }
def FnExactFracPowWrongFalsely : Prop := fnExactFracPowRow.holds Try.pinned (OpenSpec.ofChange fnExactFracPowWrong)

/-- 'laws.FnExactFracDiv': WHATEVER THE INPUT: true; the input reads as it did. -/
def fnExactFracDivSpec : ChangeSpec := { name := "fnExactFracDiv", fn := fun _ => fun
  | [d1, d2] => { results := [.lit (.bool true)], args := [d1, d2] }
  | _ => none }
def fnExactFracDivRow : OpenClaim := { program := "ythjjaddhcdekjaa", sum := "a7d447ed63beaf03eb0e778a6bf83f85df2890f37fe1185d3c5b89caf93a3cf1", func := "loop.example/pinfold/laws.FnExactFracDiv", spec := "fnExactFracDiv", unfollowed := true, recurses := true, apart := false }
def FnExactFracDivSaid : Prop := fnExactFracDivRow.holds Try.pinned (OpenSpec.ofChange fnExactFracDivSpec)

/-- ITS FALSE NEIGHBOUR: 'it returns false'. Refute it at one input. -/
def fnExactFracDivWrong : ChangeSpec := { name := "fnExactFracDiv", fn := fun _ => fun
  | [d1, d2] => { results := [.lit (.bool false)], args := [d1, d2] }
  | _ => none }
def FnExactFracDivWrongFalsely : Prop := fnExactFracDivRow.holds Try.pinned (OpenSpec.ofChange fnExactFracDivWrong)

/-- 'laws.FnExactFracRoot': WHATEVER THE INPUT: true; the input reads as it did. -/
def fnExactFracRootSpec : ChangeSpec := { name := "fnExactFracRoot", fn := fun _ => fun
  | [d] => { results := [.lit (.bool true)], args := [d] }
  | _ => none }
def fnExactFracRootRow : OpenClaim := { program := "ythjjaddhcdekjaa", sum := "a7d447ed63beaf03eb0e778a6bf83f85df2890f37fe1185d3c5b89caf93a3cf1", func := "loop.example/pinfold/laws.FnExactFracRoot", spec := "fnExactFracRoot", unfollowed := true, recurses := true, apart := false }
def FnExactFracRootSaid : Prop := fnExactFracRootRow.holds Try.pinned (OpenSpec.ofChange fnExactFracRootSpec)

/-- ITS FALSE NEIGHBOUR: 'it returns false'. Refute it at one input. -/
def fnExactFracRootWrong : ChangeSpec := { name := "fnExactFracRoot", fn := fun _ => fun
  | [d] => { results := [.lit (.bool false)], args := [d] }
  | _ => none }
def FnExactFracRootWrongFalsely : Prop := fnExactFracRootRow.holds Try.pinned (OpenSpec.ofChange fnExactFracRootWrong)

/- THE SECOND FORM. 'bulk': how many values and letters a reading holds, each counted each time it is reached (what is shared counts as often as it is met; a slice's spare places count too). A statement '..UptoSaid' is the law's where the arguments, and the package variables that the reading takes, are together of bulk at most 1048576: NARROWER than '..Said'. Prove '..Said' where nothing that the law and all that it calls make is longer than what came in: it says more and counts as full. Else prove '..UptoSaid'. A law counts once. -/
mutual
def uptoBulk {H : Type} : DataW H → Nat
  | .lit (.string bytes) => bytes.length + 1
  | .lit _ => 1
  | .nil => 1
  | .ptr d => uptoBulk d + 1
  | .slice elems spare => uptoBulkAll elems + uptoBulkAll spare + 1
  | .agg parts => uptoBulkAll parts + 1
  | .iface _ d => uptoBulk d + 1
  | .map entries => uptoBulkEntries entries + 1
  | .held _ => 1
def uptoBulkAll {H : Type} : List (DataW H) → Nat
  | [] => 0
  | d :: r => uptoBulk d + uptoBulkAll r
def uptoBulkEntries {H : Type} : List (Lit × DataW H) → Nat
  | [] => 0
  | x :: r => uptoBulkEntry x + uptoBulkEntries r
def uptoBulkEntry {H : Type} : Lit × DataW H → Nat
  | (.string bytes, d) => bytes.length + uptoBulk d + 1
  | (_, d) => uptoBulk d + 1
 end
def uptoSmall : (H : Type) → List (DataW H) → Bool := fun _ ds => decide (uptoBulkAll ds ≤ 1048576)
def OpenSpec.upto (s : _root_.Go.ChangeSpec) : _root_.Go.OpenSpec := { _root_.Go.OpenSpec.ofChange s with cond := some uptoSmall }

/-- 'laws.FnExactFracOk', WHERE WHAT IT READS IS OF BULK AT MOST 1048576: true; the input reads as it did. -/
def fnExactFracOkUptoRow : OpenClaim := { program := "ythjjaddhcdekjaa", sum := "a7d447ed63beaf03eb0e778a6bf83f85df2890f37fe1185d3c5b89caf93a3cf1", func := "loop.example/pinfold/laws.FnExactFracOk", spec := "fnExactFracOk", unfollowed := true, recurses := true, apart := false, narrowed := true }
def FnExactFracOkUptoSaid : Prop := fnExactFracOkUptoRow.holds Try.pinned (OpenSpec.upto fnExactFracOkSpec)

/-- 'laws.FnExactFracSign', WHERE WHAT IT READS IS OF BULK AT MOST 1048576: true; the input reads as it did. -/
def fnExactFracSignUptoRow : OpenClaim := { program := "ythjjaddhcdekjaa", sum := "a7d447ed63beaf03eb0e778a6bf83f85df2890f37fe1185d3c5b89caf93a3cf1", func := "loop.example/pinfold/laws.FnExactFracSign", spec := "fnExactFracSign", unfollowed := true, recurses := true, apart := false, narrowed := true }
def FnExactFracSignUptoSaid : Prop := fnExactFracSignUptoRow.holds Try.pinned (OpenSpec.upto fnExactFracSignSpec)

/-- 'laws.FnExactFracOf', WHERE WHAT IT READS IS OF BULK AT MOST 1048576: true; the input reads as it did. -/
def fnExactFracOfUptoRow : OpenClaim := { program := "ythjjaddhcdekjaa", sum := "a7d447ed63beaf03eb0e778a6bf83f85df2890f37fe1185d3c5b89caf93a3cf1", func := "loop.example/pinfold/laws.FnExactFracOf", spec := "fnExactFracOf", unfollowed := true, recurses := true, apart := false, narrowed := true }
def FnExactFracOfUptoSaid : Prop := fnExactFracOfUptoRow.holds Try.pinned (OpenSpec.upto fnExactFracOfSpec)

/-- 'laws.FnExactFracAbs', WHERE WHAT IT READS IS OF BULK AT MOST 1048576: true; the input reads as it did. -/
def fnExactFracAbsUptoRow : OpenClaim := { program := "ythjjaddhcdekjaa", sum := "a7d447ed63beaf03eb0e778a6bf83f85df2890f37fe1185d3c5b89caf93a3cf1", func := "loop.example/pinfold/laws.FnExactFracAbs", spec := "fnExactFracAbs", unfollowed := true, recurses := true, apart := false, narrowed := true }
def FnExactFracAbsUptoSaid : Prop := fnExactFracAbsUptoRow.holds Try.pinned (OpenSpec.upto fnExactFracAbsSpec)

/-- 'laws.FnExactFracCmp', WHERE WHAT IT READS IS OF BULK AT MOST 1048576: true; the input reads as it did. -/
def fnExactFracCmpUptoRow : OpenClaim := { program := "ythjjaddhcdekjaa", sum := "a7d447ed63beaf03eb0e778a6bf83f85df2890f37fe1185d3c5b89caf93a3cf1", func := "loop.example/pinfold/laws.FnExactFracCmp", spec := "fnExactFracCmp", unfollowed := true, recurses := true, apart := false, narrowed := true }
def FnExactFracCmpUptoSaid : Prop := fnExactFracCmpUptoRow.holds Try.pinned (OpenSpec.upto fnExactFracCmpSpec)

/-- 'laws.FnFracMake', WHERE WHAT IT READS IS OF BULK AT MOST 1048576: true; the input reads as it did. -/
def fnFracMakeUptoRow : OpenClaim := { program := "ythjjaddhcdekjaa", sum := "a7d447ed63beaf03eb0e778a6bf83f85df2890f37fe1185d3c5b89caf93a3cf1", func := "loop.example/pinfold/laws.FnFracMake", spec := "fnFracMake", unfollowed := true, recurses := true, apart := false, narrowed := true }
def FnFracMakeUptoSaid : Prop := fnFracMakeUptoRow.holds Try.pinned (OpenSpec.upto fnFracMakeSpec)

/-- 'laws.FnExactRelHolds', WHERE WHAT IT READS IS OF BULK AT MOST 1048576: true; the input reads as it did. -/
def fnExactRelHoldsUptoRow : OpenClaim := { program := "ythjjaddhcdekjaa", sum := "a7d447ed63beaf03eb0e778a6bf83f85df2890f37fe1185d3c5b89caf93a3cf1", func := "loop.example/pinfold/laws.FnExactRelHolds", spec := "fnExactRelHolds", unfollowed := true, recurses := true, apart := false, narrowed := true }
def FnExactRelHoldsUptoSaid : Prop := fnExactRelHoldsUptoRow.holds Try.pinned (OpenSpec.upto fnExactRelHoldsSpec)

/-- 'laws.FnExactFracFloor', WHERE WHAT IT READS IS OF BULK AT MOST 1048576: true; the input reads as it did. -/
def fnExactFracFloorUptoRow : OpenClaim := { program := "ythjjaddhcdekjaa", sum := "a7d447ed63beaf03eb0e778a6bf83f85df2890f37fe1185d3c5b89caf93a3cf1", func := "loop.example/pinfold/laws.FnExactFracFloor", spec := "fnExactFracFloor", unfollowed := true, recurses := true, apart := false, narrowed := true }
def FnExactFracFloorUptoSaid : Prop := fnExactFracFloorUptoRow.holds Try.pinned (OpenSpec.upto fnExactFracFloorSpec)

/-- 'laws.FnExactFracPow', WHERE WHAT IT READS IS OF BULK AT MOST 1048576: true; the input reads as it did. -/
def fnExactFracPowUptoRow : OpenClaim := { program := "ythjjaddhcdekjaa", sum := "a7d447ed63beaf03eb0e778a6bf83f85df2890f37fe1185d3c5b89caf93a3cf1", func := "loop.example/pinfold/laws.FnExactFracPow", spec := "fnExactFracPow", unfollowed := true, recurses := true, apart := false, narrowed := true }
def FnExactFracPowUptoSaid : Prop := fnExactFracPowUptoRow.holds Try.pinned (OpenSpec.upto fnExactFracPowSpec)

/-- 'laws.FnExactFracDiv', WHERE WHAT IT READS IS OF BULK AT MOST 1048576: true; the input reads as it did. -/
def fnExactFracDivUptoRow : OpenClaim := { program := "ythjjaddhcdekjaa", sum := "a7d447ed63beaf03eb0e778a6bf83f85df2890f37fe1185d3c5b89caf93a3cf1", func := "loop.example/pinfold/laws.FnExactFracDiv", spec := "fnExactFracDiv", unfollowed := true, recurses := true, apart := false, narrowed := true }
def FnExactFracDivUptoSaid : Prop := fnExactFracDivUptoRow.holds Try.pinned (OpenSpec.upto fnExactFracDivSpec)

/-- 'laws.FnExactFracRoot', WHERE WHAT IT READS IS OF BULK AT MOST 1048576: true; the input reads as it did. -/
def fnExactFracRootUptoRow : OpenClaim := { program := "ythjjaddhcdekjaa", sum := "a7d447ed63beaf03eb0e778a6bf83f85df2890f37fe1185d3c5b89caf93a3cf1", func := "loop.example/pinfold/laws.FnExactFracRoot", spec := "fnExactFracRoot", unfollowed := true, recurses := true, apart := false, narrowed := true }
def FnExactFracRootUptoSaid : Prop := fnExactFracRootUptoRow.holds Try.pinned (OpenSpec.upto fnExactFracRootSpec)

end Rows
end Go.Proofs.Ythjjaddhcdekjaa
