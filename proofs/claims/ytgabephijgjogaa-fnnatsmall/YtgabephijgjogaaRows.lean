/-
  No cell of these rows narrows 'for every input' (looked for: loops, veiled, ifaces, maps, wideKeys, modest, calm, conditions, laid).
  DERIVED. THE GIVEN ROWS OF THIS SEAT. 9 by the template 'for every input the law returns true; each argument reads behind the call as it read before'; 0 by the template 'total and deterministic' (their statements: YtgabephijgjogaaTotals.lean).
  GIVEN WITH THE SEED: the statements are not yours to turn. If you find one false, say at which input.
  Laid BY PROGRAM, IN A SANDBOX (cutbox-rows.mjs): the forced cells as the released guide's own fill.sh prints them over the translation 1d58781739714102… (all of the seat's roots in one cut). By AI agents, Wed Nov 11 2026. No macro, syntax, notation, axiom, sorry.
-/
import Derived.Test.YtgabephijgjogaaChecked
import GoSem.Claim
import GoSem.ClaimJoined
import GoSem.ClaimMapViews
import Derived.JoinedTies
import Derived.KernelRfl
namespace Go.Proofs.Ytgabephijgjogaa
/- THE CELL 'sum', in the pinned program and in every row, IS THE sha256 OF THE DUMP (.gsa) THAT YtgabephijgjogaaProg.lean LOADS. Nothing in Lean hashes anything: it is a label: what it is worth is what the hold of that sum in a sandbox is worth. -/
noncomputable def Try.pinned : Pinned := { name := "ytgabephijgjogaa", sum := "1d587817397141025d373587936b7cb1249d93d654fd388e5b4440f5646abb3b", checked := Try.checked }
namespace Rows
def none {H : Type} : Left H := { results := [], args := [] }

/-- 'laws.FnNatSmall': WHATEVER THE INPUT: true; the input reads as it did. -/
def fnNatSmallSpec : ChangeSpec := { name := "fnNatSmall", fn := fun _ => fun
  | [d1, d2] => { results := [.lit (.bool true)], args := [d1, d2] }
  | _ => none }
def fnNatSmallRow : OpenClaim := { program := "ytgabephijgjogaa", sum := "1d587817397141025d373587936b7cb1249d93d654fd388e5b4440f5646abb3b", func := "loop.example/pinfold/laws.FnNatSmall", spec := "fnNatSmall", unfollowed := true, recurses := true, apart := false }
def FnNatSmallSaid : Prop := fnNatSmallRow.holds Try.pinned (OpenSpec.ofChange fnNatSmallSpec)

/-- ITS FALSE NEIGHBOUR: 'it returns false'. Refute it at one input. -/
def fnNatSmallWrong : ChangeSpec := { name := "fnNatSmall", fn := fun _ => fun
  | [d1, d2] => { results := [.lit (.bool false)], args := [d1, d2] }
  | _ => none }
def FnNatSmallWrongFalsely : Prop := fnNatSmallRow.holds Try.pinned (OpenSpec.ofChange fnNatSmallWrong)

/-- 'laws.FnExactNatShift': WHATEVER THE INPUT: true; the input reads as it did. -/
def fnExactNatShiftSpec : ChangeSpec := { name := "fnExactNatShift", fn := fun _ => fun
  | [d1, d2] => { results := [.lit (.bool true)], args := [d1, d2] }
  | _ => none }
def fnExactNatShiftRow : OpenClaim := { program := "ytgabephijgjogaa", sum := "1d587817397141025d373587936b7cb1249d93d654fd388e5b4440f5646abb3b", func := "loop.example/pinfold/laws.FnExactNatShift", spec := "fnExactNatShift", unfollowed := true, recurses := true, apart := false }
def FnExactNatShiftSaid : Prop := fnExactNatShiftRow.holds Try.pinned (OpenSpec.ofChange fnExactNatShiftSpec)

/-- ITS FALSE NEIGHBOUR: 'it returns false'. Refute it at one input. -/
def fnExactNatShiftWrong : ChangeSpec := { name := "fnExactNatShift", fn := fun _ => fun
  | [d1, d2] => { results := [.lit (.bool false)], args := [d1, d2] }
  | _ => none }
def FnExactNatShiftWrongFalsely : Prop := fnExactNatShiftRow.holds Try.pinned (OpenSpec.ofChange fnExactNatShiftWrong)

/-- 'laws.FnExactNatRoot': WHATEVER THE INPUT: true; the input reads as it did. -/
def fnExactNatRootSpec : ChangeSpec := { name := "fnExactNatRoot", fn := fun _ => fun
  | [d] => { results := [.lit (.bool true)], args := [d] }
  | _ => none }
def fnExactNatRootRow : OpenClaim := { program := "ytgabephijgjogaa", sum := "1d587817397141025d373587936b7cb1249d93d654fd388e5b4440f5646abb3b", func := "loop.example/pinfold/laws.FnExactNatRoot", spec := "fnExactNatRoot", unfollowed := true, recurses := true, apart := false }
def FnExactNatRootSaid : Prop := fnExactNatRootRow.holds Try.pinned (OpenSpec.ofChange fnExactNatRootSpec)

/-- ITS FALSE NEIGHBOUR: 'it returns false'. Refute it at one input. -/
def fnExactNatRootWrong : ChangeSpec := { name := "fnExactNatRoot", fn := fun _ => fun
  | [d] => { results := [.lit (.bool false)], args := [d] }
  | _ => none }
def FnExactNatRootWrongFalsely : Prop := fnExactNatRootRow.holds Try.pinned (OpenSpec.ofChange fnExactNatRootWrong)

/-- 'laws.FnExactNatDiv': WHATEVER THE INPUT: true; the input reads as it did. -/
def fnExactNatDivSpec : ChangeSpec := { name := "fnExactNatDiv", fn := fun _ => fun
  | [d1, d2] => { results := [.lit (.bool true)], args := [d1, d2] }
  | _ => none }
def fnExactNatDivRow : OpenClaim := { program := "ytgabephijgjogaa", sum := "1d587817397141025d373587936b7cb1249d93d654fd388e5b4440f5646abb3b", func := "loop.example/pinfold/laws.FnExactNatDiv", spec := "fnExactNatDiv", unfollowed := true, recurses := true, apart := false }
def FnExactNatDivSaid : Prop := fnExactNatDivRow.holds Try.pinned (OpenSpec.ofChange fnExactNatDivSpec)

/-- ITS FALSE NEIGHBOUR: 'it returns false'. Refute it at one input. -/
def fnExactNatDivWrong : ChangeSpec := { name := "fnExactNatDiv", fn := fun _ => fun
  | [d1, d2] => { results := [.lit (.bool false)], args := [d1, d2] }
  | _ => none }
def FnExactNatDivWrongFalsely : Prop := fnExactNatDivRow.holds Try.pinned (OpenSpec.ofChange fnExactNatDivWrong)

/-- 'laws.FnNatRoot': WHATEVER THE INPUT: true; the input reads as it did. -/
def fnNatRootSpec : ChangeSpec := { name := "fnNatRoot", fn := fun _ => fun
  | [d] => { results := [.lit (.bool true)], args := [d] }
  | _ => none }
def fnNatRootRow : OpenClaim := { program := "ytgabephijgjogaa", sum := "1d587817397141025d373587936b7cb1249d93d654fd388e5b4440f5646abb3b", func := "loop.example/pinfold/laws.FnNatRoot", spec := "fnNatRoot", unfollowed := true, recurses := true, apart := false }
def FnNatRootSaid : Prop := fnNatRootRow.holds Try.pinned (OpenSpec.ofChange fnNatRootSpec)

/-- ITS FALSE NEIGHBOUR: 'it returns false'. Refute it at one input. -/
def fnNatRootWrong : ChangeSpec := { name := "fnNatRoot", fn := fun _ => fun
  | [d] => { results := [.lit (.bool false)], args := [d] }
  | _ => none }
def FnNatRootWrongFalsely : Prop := fnNatRootRow.holds Try.pinned (OpenSpec.ofChange fnNatRootWrong)

/-- 'laws.FnExactNatGcd': WHATEVER THE INPUT: true; the input reads as it did. -/
def fnExactNatGcdSpec : ChangeSpec := { name := "fnExactNatGcd", fn := fun _ => fun
  | [d1, d2] => { results := [.lit (.bool true)], args := [d1, d2] }
  | _ => none }
def fnExactNatGcdRow : OpenClaim := { program := "ytgabephijgjogaa", sum := "1d587817397141025d373587936b7cb1249d93d654fd388e5b4440f5646abb3b", func := "loop.example/pinfold/laws.FnExactNatGcd", spec := "fnExactNatGcd", unfollowed := true, recurses := true, apart := false }
def FnExactNatGcdSaid : Prop := fnExactNatGcdRow.holds Try.pinned (OpenSpec.ofChange fnExactNatGcdSpec)

/-- ITS FALSE NEIGHBOUR: 'it returns false'. Refute it at one input. -/
def fnExactNatGcdWrong : ChangeSpec := { name := "fnExactNatGcd", fn := fun _ => fun
  | [d1, d2] => { results := [.lit (.bool false)], args := [d1, d2] }
  | _ => none }
def FnExactNatGcdWrongFalsely : Prop := fnExactNatGcdRow.holds Try.pinned (OpenSpec.ofChange fnExactNatGcdWrong)

/-- 'laws.FnNatShift': WHATEVER THE INPUT: true; the input reads as it did. -/
def fnNatShiftSpec : ChangeSpec := { name := "fnNatShift", fn := fun _ => fun
  | [d] => { results := [.lit (.bool true)], args := [d] }
  | _ => none }
def fnNatShiftRow : OpenClaim := { program := "ytgabephijgjogaa", sum := "1d587817397141025d373587936b7cb1249d93d654fd388e5b4440f5646abb3b", func := "loop.example/pinfold/laws.FnNatShift", spec := "fnNatShift", unfollowed := true, recurses := true, apart := false }
def FnNatShiftSaid : Prop := fnNatShiftRow.holds Try.pinned (OpenSpec.ofChange fnNatShiftSpec)

/-- ITS FALSE NEIGHBOUR: 'it returns false'. Refute it at one input. -/
def fnNatShiftWrong : ChangeSpec := { name := "fnNatShift", fn := fun _ => fun
  | [d] => { results := [.lit (.bool false)], args := [d] }
  | _ => none }
def FnNatShiftWrongFalsely : Prop := fnNatShiftRow.holds Try.pinned (OpenSpec.ofChange fnNatShiftWrong)

/-- 'laws.FnNatGcd': WHATEVER THE INPUT: true; the input reads as it did. -/
def fnNatGcdSpec : ChangeSpec := { name := "fnNatGcd", fn := fun _ => fun
  | [d] => { results := [.lit (.bool true)], args := [d] }
  | _ => none }
def fnNatGcdRow : OpenClaim := { program := "ytgabephijgjogaa", sum := "1d587817397141025d373587936b7cb1249d93d654fd388e5b4440f5646abb3b", func := "loop.example/pinfold/laws.FnNatGcd", spec := "fnNatGcd", unfollowed := true, recurses := true, apart := false }
def FnNatGcdSaid : Prop := fnNatGcdRow.holds Try.pinned (OpenSpec.ofChange fnNatGcdSpec)

/-- ITS FALSE NEIGHBOUR: 'it returns false'. Refute it at one input. -/
def fnNatGcdWrong : ChangeSpec := { name := "fnNatGcd", fn := fun _ => fun
  | [d] => { results := [.lit (.bool false)], args := [d] }
  | _ => none }
def FnNatGcdWrongFalsely : Prop := fnNatGcdRow.holds Try.pinned (OpenSpec.ofChange fnNatGcdWrong)

/-- 'laws.FnNatDiv': WHATEVER THE INPUT: true; the input reads as it did. -/
def fnNatDivSpec : ChangeSpec := { name := "fnNatDiv", fn := fun _ => fun
  | [d] => { results := [.lit (.bool true)], args := [d] }
  | _ => none }
def fnNatDivRow : OpenClaim := { program := "ytgabephijgjogaa", sum := "1d587817397141025d373587936b7cb1249d93d654fd388e5b4440f5646abb3b", func := "loop.example/pinfold/laws.FnNatDiv", spec := "fnNatDiv", unfollowed := true, recurses := true, apart := false }
def FnNatDivSaid : Prop := fnNatDivRow.holds Try.pinned (OpenSpec.ofChange fnNatDivSpec)

/-- ITS FALSE NEIGHBOUR: 'it returns false'. Refute it at one input. -/
def fnNatDivWrong : ChangeSpec := { name := "fnNatDiv", fn := fun _ => fun
  | [d] => { results := [.lit (.bool false)], args := [d] }
  | _ => none }
def FnNatDivWrongFalsely : Prop := fnNatDivRow.holds Try.pinned (OpenSpec.ofChange fnNatDivWrong)

/- THE SECOND FORM. 'bulk': how many values and letters a reading holds, each counted each time it is reached (what is shared counts as often as it is met; a slice's spare places count too). A statement '..UptoSaid' is the law's where the arguments, and the package variables that the reading takes, are together of bulk at most 1048576: NARROWER than '..Said'. Prove '..Said' where nothing that the law and all that it calls make is longer than what came in: it says more and counts as full. Else prove '..UptoSaid'. A law counts once. -/
mutual
def uptoBulk {H : Type} : DataW H → Nat
  | .lit (.string bytes) => bytes.length + 1
  | .lit _ => 1
  | .nil => 1
  | .ptr d => uptoBulk d + 1
  | .slice elems spare => uptoBulkAll elems + uptoBulkAll spare + 1
  | .agg parts => uptoBulkAll parts + 1
  | .iface _ d => uptoBulk d + 1
  | .map entries => uptoBulkEntries entries + 1
  | .held _ => 1
def uptoBulkAll {H : Type} : List (DataW H) → Nat
  | [] => 0
  | d :: r => uptoBulk d + uptoBulkAll r
def uptoBulkEntries {H : Type} : List (Lit × DataW H) → Nat
  | [] => 0
  | x :: r => uptoBulkEntry x + uptoBulkEntries r
def uptoBulkEntry {H : Type} : Lit × DataW H → Nat
  | (.string bytes, d) => bytes.length + uptoBulk d + 1
  | (_, d) => uptoBulk d + 1
 end
def uptoSmall : (H : Type) → List (DataW H) → Bool := fun _ ds => decide (uptoBulkAll ds ≤ 1048576)
def OpenSpec.upto (s : _root_.Go.ChangeSpec) : _root_.Go.OpenSpec := { _root_.Go.OpenSpec.ofChange s with cond := some uptoSmall }

/-- 'laws.FnNatSmall', WHERE WHAT IT READS IS OF BULK AT MOST 1048576: true; the input reads as it did. -/
def fnNatSmallUptoRow : OpenClaim := { program := "ytgabephijgjogaa", sum := "1d587817397141025d373587936b7cb1249d93d654fd388e5b4440f5646abb3b", func := "loop.example/pinfold/laws.FnNatSmall", spec := "fnNatSmall", unfollowed := true, recurses := true, apart := false, narrowed := true }
def FnNatSmallUptoSaid : Prop := fnNatSmallUptoRow.holds Try.pinned (OpenSpec.upto fnNatSmallSpec)

/-- 'laws.FnExactNatShift', WHERE WHAT IT READS IS OF BULK AT MOST 1048576: true; the input reads as it did. -/
def fnExactNatShiftUptoRow : OpenClaim := { program := "ytgabephijgjogaa", sum := "1d587817397141025d373587936b7cb1249d93d654fd388e5b4440f5646abb3b", func := "loop.example/pinfold/laws.FnExactNatShift", spec := "fnExactNatShift", unfollowed := true, recurses := true, apart := false, narrowed := true }
def FnExactNatShiftUptoSaid : Prop := fnExactNatShiftUptoRow.holds Try.pinned (OpenSpec.upto fnExactNatShiftSpec)

/-- 'laws.FnExactNatRoot', WHERE WHAT IT READS IS OF BULK AT MOST 1048576: true; the input reads as it did. -/
def fnExactNatRootUptoRow : OpenClaim := { program := "ytgabephijgjogaa", sum := "1d587817397141025d373587936b7cb1249d93d654fd388e5b4440f5646abb3b", func := "loop.example/pinfold/laws.FnExactNatRoot", spec := "fnExactNatRoot", unfollowed := true, recurses := true, apart := false, narrowed := true }
def FnExactNatRootUptoSaid : Prop := fnExactNatRootUptoRow.holds Try.pinned (OpenSpec.upto fnExactNatRootSpec)

/-- 'laws.FnExactNatDiv', WHERE WHAT IT READS IS OF BULK AT MOST 1048576: true; the input reads as it did. -/
def fnExactNatDivUptoRow : OpenClaim := { program := "ytgabephijgjogaa", sum := "1d587817397141025d373587936b7cb1249d93d654fd388e5b4440f5646abb3b", func := "loop.example/pinfold/laws.FnExactNatDiv", spec := "fnExactNatDiv", unfollowed := true, recurses := true, apart := false, narrowed := true }
def FnExactNatDivUptoSaid : Prop := fnExactNatDivUptoRow.holds Try.pinned (OpenSpec.upto fnExactNatDivSpec)

/-- 'laws.FnNatRoot', WHERE WHAT IT READS IS OF BULK AT MOST 1048576: true; the input reads as it did. -/
def fnNatRootUptoRow : OpenClaim := { program := "ytgabephijgjogaa", sum := "1d587817397141025d373587936b7cb1249d93d654fd388e5b4440f5646abb3b", func := "loop.example/pinfold/laws.FnNatRoot", spec := "fnNatRoot", unfollowed := true, recurses := true, apart := false, narrowed := true }
def FnNatRootUptoSaid : Prop := fnNatRootUptoRow.holds Try.pinned (OpenSpec.upto fnNatRootSpec)

/-- 'laws.FnExactNatGcd', WHERE WHAT IT READS IS OF BULK AT MOST 1048576: true; the input reads as it did. -/
def fnExactNatGcdUptoRow : OpenClaim := { program := "ytgabephijgjogaa", sum := "1d587817397141025d373587936b7cb1249d93d654fd388e5b4440f5646abb3b", func := "loop.example/pinfold/laws.FnExactNatGcd", spec := "fnExactNatGcd", unfollowed := true, recurses := true, apart := false, narrowed := true }
def FnExactNatGcdUptoSaid : Prop := fnExactNatGcdUptoRow.holds Try.pinned (OpenSpec.upto fnExactNatGcdSpec)

/-- 'laws.FnNatShift', WHERE WHAT IT READS IS OF BULK AT MOST 1048576: true; the input reads as it did. -/
def fnNatShiftUptoRow : OpenClaim := { program := "ytgabephijgjogaa", sum := "1d587817397141025d373587936b7cb1249d93d654fd388e5b4440f5646abb3b", func := "loop.example/pinfold/laws.FnNatShift", spec := "fnNatShift", unfollowed := true, recurses := true, apart := false, narrowed := true }
def FnNatShiftUptoSaid : Prop := fnNatShiftUptoRow.holds Try.pinned (OpenSpec.upto fnNatShiftSpec)

/-- 'laws.FnNatGcd', WHERE WHAT IT READS IS OF BULK AT MOST 1048576: true; the input reads as it did. -/
def fnNatGcdUptoRow : OpenClaim := { program := "ytgabephijgjogaa", sum := "1d587817397141025d373587936b7cb1249d93d654fd388e5b4440f5646abb3b", func := "loop.example/pinfold/laws.FnNatGcd", spec := "fnNatGcd", unfollowed := true, recurses := true, apart := false, narrowed := true }
def FnNatGcdUptoSaid : Prop := fnNatGcdUptoRow.holds Try.pinned (OpenSpec.upto fnNatGcdSpec)

/-- 'laws.FnNatDiv', WHERE WHAT IT READS IS OF BULK AT MOST 1048576: true; the input reads as it did. -/
def fnNatDivUptoRow : OpenClaim := { program := "ytgabephijgjogaa", sum := "1d587817397141025d373587936b7cb1249d93d654fd388e5b4440f5646abb3b", func := "loop.example/pinfold/laws.FnNatDiv", spec := "fnNatDiv", unfollowed := true, recurses := true, apart := false, narrowed := true }
def FnNatDivUptoSaid : Prop := fnNatDivUptoRow.holds Try.pinned (OpenSpec.upto fnNatDivSpec)

end Rows
end Go.Proofs.Ytgabephijgjogaa
