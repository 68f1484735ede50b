/-
  No cell of these rows narrows 'for every input' (looked for: loops, veiled, ifaces, maps, wideKeys, modest, calm, conditions, laid).
  DERIVED. THE GIVEN ROWS OF THIS SEAT. 11 by the template 'for every input the law returns true; each argument reads behind the call as it read before'; 0 by the template 'total and deterministic' (their statements: YtaelbfbplamahaaTotals.lean).
  GIVEN WITH THE SEED: the statements are not yours to turn. If you find one false, say at which input.
  Laid BY PROGRAM, IN A SANDBOX (cutbox-rows.mjs): the forced cells as the released guide's own fill.sh prints them over the translation b76d40f5437d1b37… (all of the seat's roots in one cut). By AI agents, Wed Nov 11 2026. No macro, syntax, notation, axiom, sorry.
-/
import Derived.Test.YtaelbfbplamahaaChecked
import GoSem.Claim
import GoSem.ClaimJoined
import GoSem.ClaimMapViews
import Derived.JoinedTies
import Derived.KernelRfl
namespace Go.Proofs.Ytaelbfbplamahaa
/- THE CELL 'sum', in the pinned program and in every row, IS THE sha256 OF THE DUMP (.gsa) THAT YtaelbfbplamahaaProg.lean LOADS. Nothing in Lean hashes anything: it is a label: what it is worth is what the hold of that sum in a sandbox is worth. -/
noncomputable def Try.pinned : Pinned := { name := "ytaelbfbplamahaa", sum := "b76d40f5437d1b37b4b44ee1e82376e1def28dae37aeb2ed60178cd0ec6edf10", checked := Try.checked }
namespace Rows
def none {H : Type} : Left H := { results := [], args := [] }

/-- 'laws.FnExactPairSplit': WHATEVER THE INPUT: true; the input reads as it did. -/
def fnExactPairSplitSpec : ChangeSpec := { name := "fnExactPairSplit", fn := fun _ => fun
  | [d1, d2] => { results := [.lit (.bool true)], args := [d1, d2] }
  | _ => none }
def fnExactPairSplitRow : OpenClaim := { program := "ytaelbfbplamahaa", sum := "b76d40f5437d1b37b4b44ee1e82376e1def28dae37aeb2ed60178cd0ec6edf10", func := "loop.example/pinfold/laws.FnExactPairSplit", spec := "fnExactPairSplit", apart := false }
def FnExactPairSplitSaid : Prop := fnExactPairSplitRow.holds Try.pinned (OpenSpec.ofChange fnExactPairSplitSpec)

/-- ITS FALSE NEIGHBOUR: 'it returns false'. Refute it at one input. -/
def fnExactPairSplitWrong : ChangeSpec := { name := "fnExactPairSplit", fn := fun _ => fun
  | [d1, d2] => { results := [.lit (.bool false)], args := [d1, d2] }
  | _ => none }
def FnExactPairSplitWrongFalsely : Prop := fnExactPairSplitRow.holds Try.pinned (OpenSpec.ofChange fnExactPairSplitWrong)

/-- 'laws.FnExactPairCut': WHATEVER THE INPUT: true; the input reads as it did. -/
def fnExactPairCutSpec : ChangeSpec := { name := "fnExactPairCut", fn := fun _ => fun
  | [d1, d2, d3] => { results := [.lit (.bool true)], args := [d1, d2, d3] }
  | _ => none }
def fnExactPairCutRow : OpenClaim := { program := "ytaelbfbplamahaa", sum := "b76d40f5437d1b37b4b44ee1e82376e1def28dae37aeb2ed60178cd0ec6edf10", func := "loop.example/pinfold/laws.FnExactPairCut", spec := "fnExactPairCut", apart := false }
def FnExactPairCutSaid : Prop := fnExactPairCutRow.holds Try.pinned (OpenSpec.ofChange fnExactPairCutSpec)

/-- ITS FALSE NEIGHBOUR: 'it returns false'. Refute it at one input. -/
def fnExactPairCutWrong : ChangeSpec := { name := "fnExactPairCut", fn := fun _ => fun
  | [d1, d2, d3] => { results := [.lit (.bool false)], args := [d1, d2, d3] }
  | _ => none }
def FnExactPairCutWrongFalsely : Prop := fnExactPairCutRow.holds Try.pinned (OpenSpec.ofChange fnExactPairCutWrong)

/-- 'laws.FnPairSplit': WHATEVER THE INPUT: true; the input reads as it did. -/
def fnPairSplitSpec : ChangeSpec := { name := "fnPairSplit", fn := fun _ => fun
  | [d1, d2] => { results := [.lit (.bool true)], args := [d1, d2] }
  | _ => none }
def fnPairSplitRow : OpenClaim := { program := "ytaelbfbplamahaa", sum := "b76d40f5437d1b37b4b44ee1e82376e1def28dae37aeb2ed60178cd0ec6edf10", func := "loop.example/pinfold/laws.FnPairSplit", spec := "fnPairSplit", apart := false }
def FnPairSplitSaid : Prop := fnPairSplitRow.holds Try.pinned (OpenSpec.ofChange fnPairSplitSpec)

/-- ITS FALSE NEIGHBOUR: 'it returns false'. Refute it at one input. -/
def fnPairSplitWrong : ChangeSpec := { name := "fnPairSplit", fn := fun _ => fun
  | [d1, d2] => { results := [.lit (.bool false)], args := [d1, d2] }
  | _ => none }
def FnPairSplitWrongFalsely : Prop := fnPairSplitRow.holds Try.pinned (OpenSpec.ofChange fnPairSplitWrong)

/-- 'laws.FnExactBoxWidest': WHATEVER THE INPUT: true; the input reads as it did. -/
def fnExactBoxWidestSpec : ChangeSpec := { name := "fnExactBoxWidest", fn := fun _ => fun
  | [d1, d2] => { results := [.lit (.bool true)], args := [d1, d2] }
  | _ => none }
def fnExactBoxWidestRow : OpenClaim := { program := "ytaelbfbplamahaa", sum := "b76d40f5437d1b37b4b44ee1e82376e1def28dae37aeb2ed60178cd0ec6edf10", func := "loop.example/pinfold/laws.FnExactBoxWidest", spec := "fnExactBoxWidest", unfollowed := true, recurses := true, apart := false }
def FnExactBoxWidestSaid : Prop := fnExactBoxWidestRow.holds Try.pinned (OpenSpec.ofChange fnExactBoxWidestSpec)

/-- ITS FALSE NEIGHBOUR: 'it returns false'. Refute it at one input. -/
def fnExactBoxWidestWrong : ChangeSpec := { name := "fnExactBoxWidest", fn := fun _ => fun
  | [d1, d2] => { results := [.lit (.bool false)], args := [d1, d2] }
  | _ => none }
def FnExactBoxWidestWrongFalsely : Prop := fnExactBoxWidestRow.holds Try.pinned (OpenSpec.ofChange fnExactBoxWidestWrong)

/-- 'laws.FnExactBoxFine': WHATEVER THE INPUT: true; the input reads as it did. -/
def fnExactBoxFineSpec : ChangeSpec := { name := "fnExactBoxFine", fn := fun _ => fun
  | [d1, d2, d3] => { results := [.lit (.bool true)], args := [d1, d2, d3] }
  | _ => none }
def fnExactBoxFineRow : OpenClaim := { program := "ytaelbfbplamahaa", sum := "b76d40f5437d1b37b4b44ee1e82376e1def28dae37aeb2ed60178cd0ec6edf10", func := "loop.example/pinfold/laws.FnExactBoxFine", spec := "fnExactBoxFine", unfollowed := true, recurses := true, apart := false }
def FnExactBoxFineSaid : Prop := fnExactBoxFineRow.holds Try.pinned (OpenSpec.ofChange fnExactBoxFineSpec)

/-- ITS FALSE NEIGHBOUR: 'it returns false'. Refute it at one input. -/
def fnExactBoxFineWrong : ChangeSpec := { name := "fnExactBoxFine", fn := fun _ => fun
  | [d1, d2, d3] => { results := [.lit (.bool false)], args := [d1, d2, d3] }
  | _ => none }
def FnExactBoxFineWrongFalsely : Prop := fnExactBoxFineRow.holds Try.pinned (OpenSpec.ofChange fnExactBoxFineWrong)

/-- 'laws.FnExactBoxUnits': WHATEVER THE INPUT: true; the input reads as it did. -/
def fnExactBoxUnitsSpec : ChangeSpec := { name := "fnExactBoxUnits", fn := fun _ => fun
  | [d1, d2] => { results := [.lit (.bool true)], args := [d1, d2] }
  | _ => none }
def fnExactBoxUnitsRow : OpenClaim := { program := "ytaelbfbplamahaa", sum := "b76d40f5437d1b37b4b44ee1e82376e1def28dae37aeb2ed60178cd0ec6edf10", func := "loop.example/pinfold/laws.FnExactBoxUnits", spec := "fnExactBoxUnits", unfollowed := true, recurses := true, apart := false }
def FnExactBoxUnitsSaid : Prop := fnExactBoxUnitsRow.holds Try.pinned (OpenSpec.ofChange fnExactBoxUnitsSpec)

/-- ITS FALSE NEIGHBOUR: 'it returns false'. Refute it at one input. -/
def fnExactBoxUnitsWrong : ChangeSpec := { name := "fnExactBoxUnits", fn := fun _ => fun
  | [d1, d2] => { results := [.lit (.bool false)], args := [d1, d2] }
  | _ => none }
def FnExactBoxUnitsWrongFalsely : Prop := fnExactBoxUnitsRow.holds Try.pinned (OpenSpec.ofChange fnExactBoxUnitsWrong)

/-- 'laws.FnExactBoxPath': WHATEVER THE INPUT: true; the input reads as it did. -/
def fnExactBoxPathSpec : ChangeSpec := { name := "fnExactBoxPath", fn := fun _ => fun
  | [d1, d2] => { results := [.lit (.bool true)], args := [d1, d2] }
  | _ => none }
def fnExactBoxPathRow : OpenClaim := { program := "ytaelbfbplamahaa", sum := "b76d40f5437d1b37b4b44ee1e82376e1def28dae37aeb2ed60178cd0ec6edf10", func := "loop.example/pinfold/laws.FnExactBoxPath", spec := "fnExactBoxPath", unfollowed := true, recurses := true, apart := false }
def FnExactBoxPathSaid : Prop := fnExactBoxPathRow.holds Try.pinned (OpenSpec.ofChange fnExactBoxPathSpec)

/-- ITS FALSE NEIGHBOUR: 'it returns false'. Refute it at one input. -/
def fnExactBoxPathWrong : ChangeSpec := { name := "fnExactBoxPath", fn := fun _ => fun
  | [d1, d2] => { results := [.lit (.bool false)], args := [d1, d2] }
  | _ => none }
def FnExactBoxPathWrongFalsely : Prop := fnExactBoxPathRow.holds Try.pinned (OpenSpec.ofChange fnExactBoxPathWrong)

/-- 'laws.FnExactBoxHalved': WHATEVER THE INPUT: true; the input reads as it did. -/
def fnExactBoxHalvedSpec : ChangeSpec := { name := "fnExactBoxHalved", fn := fun _ => fun
  | [d1, d2, d3] => { results := [.lit (.bool true)], args := [d1, d2, d3] }
  | _ => none }
def fnExactBoxHalvedRow : OpenClaim := { program := "ytaelbfbplamahaa", sum := "b76d40f5437d1b37b4b44ee1e82376e1def28dae37aeb2ed60178cd0ec6edf10", func := "loop.example/pinfold/laws.FnExactBoxHalved", spec := "fnExactBoxHalved", unfollowed := true, recurses := true, apart := false }
def FnExactBoxHalvedSaid : Prop := fnExactBoxHalvedRow.holds Try.pinned (OpenSpec.ofChange fnExactBoxHalvedSpec)

/-- ITS FALSE NEIGHBOUR: 'it returns false'. Refute it at one input. -/
def fnExactBoxHalvedWrong : ChangeSpec := { name := "fnExactBoxHalved", fn := fun _ => fun
  | [d1, d2, d3] => { results := [.lit (.bool false)], args := [d1, d2, d3] }
  | _ => none }
def FnExactBoxHalvedWrongFalsely : Prop := fnExactBoxHalvedRow.holds Try.pinned (OpenSpec.ofChange fnExactBoxHalvedWrong)

/-- 'laws.FnPairCut': WHATEVER THE INPUT: true; the input reads as it did. -/
def fnPairCutSpec : ChangeSpec := { name := "fnPairCut", fn := fun _ => fun
  | [d1, d2] => { results := [.lit (.bool true)], args := [d1, d2] }
  | _ => none }
def fnPairCutRow : OpenClaim := { program := "ytaelbfbplamahaa", sum := "b76d40f5437d1b37b4b44ee1e82376e1def28dae37aeb2ed60178cd0ec6edf10", func := "loop.example/pinfold/laws.FnPairCut", spec := "fnPairCut", apart := false }
def FnPairCutSaid : Prop := fnPairCutRow.holds Try.pinned (OpenSpec.ofChange fnPairCutSpec)

/-- ITS FALSE NEIGHBOUR: 'it returns false'. Refute it at one input. -/
def fnPairCutWrong : ChangeSpec := { name := "fnPairCut", fn := fun _ => fun
  | [d1, d2] => { results := [.lit (.bool false)], args := [d1, d2] }
  | _ => none }
def FnPairCutWrongFalsely : Prop := fnPairCutRow.holds Try.pinned (OpenSpec.ofChange fnPairCutWrong)

/-- 'laws.FnExactBoxSplit': WHATEVER THE INPUT: true; the input reads as it did. -/
def fnExactBoxSplitSpec : ChangeSpec := { name := "fnExactBoxSplit", fn := fun _ => fun
  | [d1, d2, d3] => { results := [.lit (.bool true)], args := [d1, d2, d3] }
  | _ => none }
def fnExactBoxSplitRow : OpenClaim := { program := "ytaelbfbplamahaa", sum := "b76d40f5437d1b37b4b44ee1e82376e1def28dae37aeb2ed60178cd0ec6edf10", func := "loop.example/pinfold/laws.FnExactBoxSplit", spec := "fnExactBoxSplit", unfollowed := true, recurses := true, apart := false }
def FnExactBoxSplitSaid : Prop := fnExactBoxSplitRow.holds Try.pinned (OpenSpec.ofChange fnExactBoxSplitSpec)

/-- ITS FALSE NEIGHBOUR: 'it returns false'. Refute it at one input. -/
def fnExactBoxSplitWrong : ChangeSpec := { name := "fnExactBoxSplit", fn := fun _ => fun
  | [d1, d2, d3] => { results := [.lit (.bool false)], args := [d1, d2, d3] }
  | _ => none }
def FnExactBoxSplitWrongFalsely : Prop := fnExactBoxSplitRow.holds Try.pinned (OpenSpec.ofChange fnExactBoxSplitWrong)

/-- 'laws.FnExactBoxCut': WHATEVER THE INPUT: true; the input reads as it did. -/
def fnExactBoxCutSpec : ChangeSpec := { name := "fnExactBoxCut", fn := fun _ => fun
  | [d1, d2, d3, d4] => { results := [.lit (.bool true)], args := [d1, d2, d3, d4] }
  | _ => none }
def fnExactBoxCutRow : OpenClaim := { program := "ytaelbfbplamahaa", sum := "b76d40f5437d1b37b4b44ee1e82376e1def28dae37aeb2ed60178cd0ec6edf10", func := "loop.example/pinfold/laws.FnExactBoxCut", spec := "fnExactBoxCut", unfollowed := true, recurses := true, apart := false }
def FnExactBoxCutSaid : Prop := fnExactBoxCutRow.holds Try.pinned (OpenSpec.ofChange fnExactBoxCutSpec)

/-- ITS FALSE NEIGHBOUR: 'it returns false'. Refute it at one input. -/
def fnExactBoxCutWrong : ChangeSpec := { name := "fnExactBoxCut", fn := fun _ => fun
  | [d1, d2, d3, d4] => { results := [.lit (.bool false)], args := [d1, d2, d3, d4] }
  | _ => none }
def FnExactBoxCutWrongFalsely : Prop := fnExactBoxCutRow.holds Try.pinned (OpenSpec.ofChange fnExactBoxCutWrong)

/- THE SECOND FORM. 'bulk': how many values and letters a reading holds, each counted each time it is reached (what is shared counts as often as it is met; a slice's spare places count too). A statement '..UptoSaid' is the law's where the arguments, and the package variables that the reading takes, are together of bulk at most 1048576: NARROWER than '..Said'. Prove '..Said' where nothing that the law and all that it calls make is longer than what came in: it says more and counts as full. Else prove '..UptoSaid'. A law counts once. -/
mutual
def uptoBulk {H : Type} : DataW H → Nat
  | .lit (.string bytes) => bytes.length + 1
  | .lit _ => 1
  | .nil => 1
  | .ptr d => uptoBulk d + 1
  | .slice elems spare => uptoBulkAll elems + uptoBulkAll spare + 1
  | .agg parts => uptoBulkAll parts + 1
  | .iface _ d => uptoBulk d + 1
  | .map entries => uptoBulkEntries entries + 1
  | .held _ => 1
def uptoBulkAll {H : Type} : List (DataW H) → Nat
  | [] => 0
  | d :: r => uptoBulk d + uptoBulkAll r
def uptoBulkEntries {H : Type} : List (Lit × DataW H) → Nat
  | [] => 0
  | x :: r => uptoBulkEntry x + uptoBulkEntries r
def uptoBulkEntry {H : Type} : Lit × DataW H → Nat
  | (.string bytes, d) => bytes.length + uptoBulk d + 1
  | (_, d) => uptoBulk d + 1
 end
def uptoSmall : (H : Type) → List (DataW H) → Bool := fun _ ds => decide (uptoBulkAll ds ≤ 1048576)
def OpenSpec.upto (s : _root_.Go.ChangeSpec) : _root_.Go.OpenSpec := { _root_.Go.OpenSpec.ofChange s with cond := some uptoSmall }

/-- 'laws.FnExactPairSplit', WHERE WHAT IT READS IS OF BULK AT MOST 1048576: true; the input reads as it did. -/
def fnExactPairSplitUptoRow : OpenClaim := { program := "ytaelbfbplamahaa", sum := "b76d40f5437d1b37b4b44ee1e82376e1def28dae37aeb2ed60178cd0ec6edf10", func := "loop.example/pinfold/laws.FnExactPairSplit", spec := "fnExactPairSplit", apart := false, narrowed := true }
def FnExactPairSplitUptoSaid : Prop := fnExactPairSplitUptoRow.holds Try.pinned (OpenSpec.upto fnExactPairSplitSpec)

/-- 'laws.FnExactPairCut', WHERE WHAT IT READS IS OF BULK AT MOST 1048576: true; the input reads as it did. -/
def fnExactPairCutUptoRow : OpenClaim := { program := "ytaelbfbplamahaa", sum := "b76d40f5437d1b37b4b44ee1e82376e1def28dae37aeb2ed60178cd0ec6edf10", func := "loop.example/pinfold/laws.FnExactPairCut", spec := "fnExactPairCut", apart := false, narrowed := true }
def FnExactPairCutUptoSaid : Prop := fnExactPairCutUptoRow.holds Try.pinned (OpenSpec.upto fnExactPairCutSpec)

/-- 'laws.FnPairSplit', WHERE WHAT IT READS IS OF BULK AT MOST 1048576: true; the input reads as it did. -/
def fnPairSplitUptoRow : OpenClaim := { program := "ytaelbfbplamahaa", sum := "b76d40f5437d1b37b4b44ee1e82376e1def28dae37aeb2ed60178cd0ec6edf10", func := "loop.example/pinfold/laws.FnPairSplit", spec := "fnPairSplit", apart := false, narrowed := true }
def FnPairSplitUptoSaid : Prop := fnPairSplitUptoRow.holds Try.pinned (OpenSpec.upto fnPairSplitSpec)

/-- 'laws.FnExactBoxWidest', WHERE WHAT IT READS IS OF BULK AT MOST 1048576: true; the input reads as it did. -/
def fnExactBoxWidestUptoRow : OpenClaim := { program := "ytaelbfbplamahaa", sum := "b76d40f5437d1b37b4b44ee1e82376e1def28dae37aeb2ed60178cd0ec6edf10", func := "loop.example/pinfold/laws.FnExactBoxWidest", spec := "fnExactBoxWidest", unfollowed := true, recurses := true, apart := false, narrowed := true }
def FnExactBoxWidestUptoSaid : Prop := fnExactBoxWidestUptoRow.holds Try.pinned (OpenSpec.upto fnExactBoxWidestSpec)

/-- 'laws.FnExactBoxFine', WHERE WHAT IT READS IS OF BULK AT MOST 1048576: true; the input reads as it did. -/
def fnExactBoxFineUptoRow : OpenClaim := { program := "ytaelbfbplamahaa", sum := "b76d40f5437d1b37b4b44ee1e82376e1def28dae37aeb2ed60178cd0ec6edf10", func := "loop.example/pinfold/laws.FnExactBoxFine", spec := "fnExactBoxFine", unfollowed := true, recurses := true, apart := false, narrowed := true }
def FnExactBoxFineUptoSaid : Prop := fnExactBoxFineUptoRow.holds Try.pinned (OpenSpec.upto fnExactBoxFineSpec)

/-- 'laws.FnExactBoxUnits', WHERE WHAT IT READS IS OF BULK AT MOST 1048576: true; the input reads as it did. -/
def fnExactBoxUnitsUptoRow : OpenClaim := { program := "ytaelbfbplamahaa", sum := "b76d40f5437d1b37b4b44ee1e82376e1def28dae37aeb2ed60178cd0ec6edf10", func := "loop.example/pinfold/laws.FnExactBoxUnits", spec := "fnExactBoxUnits", unfollowed := true, recurses := true, apart := false, narrowed := true }
def FnExactBoxUnitsUptoSaid : Prop := fnExactBoxUnitsUptoRow.holds Try.pinned (OpenSpec.upto fnExactBoxUnitsSpec)

/-- 'laws.FnExactBoxPath', WHERE WHAT IT READS IS OF BULK AT MOST 1048576: true; the input reads as it did. -/
def fnExactBoxPathUptoRow : OpenClaim := { program := "ytaelbfbplamahaa", sum := "b76d40f5437d1b37b4b44ee1e82376e1def28dae37aeb2ed60178cd0ec6edf10", func := "loop.example/pinfold/laws.FnExactBoxPath", spec := "fnExactBoxPath", unfollowed := true, recurses := true, apart := false, narrowed := true }
def FnExactBoxPathUptoSaid : Prop := fnExactBoxPathUptoRow.holds Try.pinned (OpenSpec.upto fnExactBoxPathSpec)

/-- 'laws.FnExactBoxHalved', WHERE WHAT IT READS IS OF BULK AT MOST 1048576: true; the input reads as it did. -/
def fnExactBoxHalvedUptoRow : OpenClaim := { program := "ytaelbfbplamahaa", sum := "b76d40f5437d1b37b4b44ee1e82376e1def28dae37aeb2ed60178cd0ec6edf10", func := "loop.example/pinfold/laws.FnExactBoxHalved", spec := "fnExactBoxHalved", unfollowed := true, recurses := true, apart := false, narrowed := true }
def FnExactBoxHalvedUptoSaid : Prop := fnExactBoxHalvedUptoRow.holds Try.pinned (OpenSpec.upto fnExactBoxHalvedSpec)

/-- 'laws.FnPairCut', WHERE WHAT IT READS IS OF BULK AT MOST 1048576: true; the input reads as it did. -/
def fnPairCutUptoRow : OpenClaim := { program := "ytaelbfbplamahaa", sum := "b76d40f5437d1b37b4b44ee1e82376e1def28dae37aeb2ed60178cd0ec6edf10", func := "loop.example/pinfold/laws.FnPairCut", spec := "fnPairCut", apart := false, narrowed := true }
def FnPairCutUptoSaid : Prop := fnPairCutUptoRow.holds Try.pinned (OpenSpec.upto fnPairCutSpec)

/-- 'laws.FnExactBoxSplit', WHERE WHAT IT READS IS OF BULK AT MOST 1048576: true; the input reads as it did. -/
def fnExactBoxSplitUptoRow : OpenClaim := { program := "ytaelbfbplamahaa", sum := "b76d40f5437d1b37b4b44ee1e82376e1def28dae37aeb2ed60178cd0ec6edf10", func := "loop.example/pinfold/laws.FnExactBoxSplit", spec := "fnExactBoxSplit", unfollowed := true, recurses := true, apart := false, narrowed := true }
def FnExactBoxSplitUptoSaid : Prop := fnExactBoxSplitUptoRow.holds Try.pinned (OpenSpec.upto fnExactBoxSplitSpec)

/-- 'laws.FnExactBoxCut', WHERE WHAT IT READS IS OF BULK AT MOST 1048576: true; the input reads as it did. -/
def fnExactBoxCutUptoRow : OpenClaim := { program := "ytaelbfbplamahaa", sum := "b76d40f5437d1b37b4b44ee1e82376e1def28dae37aeb2ed60178cd0ec6edf10", func := "loop.example/pinfold/laws.FnExactBoxCut", spec := "fnExactBoxCut", unfollowed := true, recurses := true, apart := false, narrowed := true }
def FnExactBoxCutUptoSaid : Prop := fnExactBoxCutUptoRow.holds Try.pinned (OpenSpec.upto fnExactBoxCutSpec)

end Rows
end Go.Proofs.Ytaelbfbplamahaa
