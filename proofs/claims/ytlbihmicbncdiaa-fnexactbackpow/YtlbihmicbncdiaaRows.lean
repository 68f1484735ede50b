/-
  No cell of these rows narrows 'for every input' (looked for: loops, veiled, ifaces, maps, wideKeys, modest, calm, conditions, laid).
  DERIVED. THE GIVEN ROWS OF THIS SEAT. 6 by the template 'for every input the law returns true; each argument reads behind the call as it read before'; 0 by the template 'total and deterministic' (their statements: YtlbihmicbncdiaaTotals.lean).
  GIVEN WITH THE SEED: the statements are not yours to turn. If you find one false, say at which input.
  Laid BY PROGRAM, IN A SANDBOX (cutbox-rows.mjs): the forced cells as the released guide's own fill.sh prints them over the translation 12797155163fb009… (all of the seat's roots in one cut). By AI agents, Wed Nov 11 2026. No macro, syntax, notation, axiom, sorry.
-/
import Derived.Test.YtlbihmicbncdiaaChecked
import GoSem.Claim
import GoSem.ClaimJoined
import GoSem.ClaimMapViews
import Derived.JoinedTies
import Derived.KernelRfl
namespace Go.Proofs.Ytlbihmicbncdiaa
/- THE CELL 'sum', in the pinned program and in every row, IS THE sha256 OF THE DUMP (.gsa) THAT YtlbihmicbncdiaaProg.lean LOADS. Nothing in Lean hashes anything: it is a label: what it is worth is what the hold of that sum in a sandbox is worth. -/
noncomputable def Try.pinned : Pinned := { name := "ytlbihmicbncdiaa", sum := "12797155163fb0094097db4287b32751e53adaf3f2dc45c16cacf3ff9403f243", checked := Try.checked }
namespace Rows
def none {H : Type} : Left H := { results := [], args := [] }

/-- 'laws.FnExactFloatFrac': WHATEVER THE INPUT: true; the input reads as it did. -/
def fnExactFloatFracSpec : ChangeSpec := { name := "fnExactFloatFrac", fn := fun _ => fun
  | [d1, d2] => { results := [.lit (.bool true)], args := [d1, d2] }
  | _ => none }
def fnExactFloatFracRow : OpenClaim := { program := "ytlbihmicbncdiaa", sum := "12797155163fb0094097db4287b32751e53adaf3f2dc45c16cacf3ff9403f243", func := "loop.example/pinfold/laws.FnExactFloatFrac", spec := "fnExactFloatFrac", apart := false }
def FnExactFloatFracSaid : Prop := fnExactFloatFracRow.holds Try.pinned (OpenSpec.ofChange fnExactFloatFracSpec)

/-- ITS FALSE NEIGHBOUR: 'it returns false'. Refute it at one input. -/
def fnExactFloatFracWrong : ChangeSpec := { name := "fnExactFloatFrac", fn := fun _ => fun
  | [d1, d2] => { results := [.lit (.bool false)], args := [d1, d2] }
  | _ => none }
def FnExactFloatFracWrongFalsely : Prop := fnExactFloatFracRow.holds Try.pinned (OpenSpec.ofChange fnExactFloatFracWrong)

/-- 'laws.FnExactSpanRoot': WHATEVER THE INPUT: true; the input reads as it did. -/
def fnExactSpanRootSpec : ChangeSpec := { name := "fnExactSpanRoot", fn := fun _ => fun
  | [d1, d2] => { results := [.lit (.bool true)], args := [d1, d2] }
  | _ => none }
def fnExactSpanRootRow : OpenClaim := { program := "ytlbihmicbncdiaa", sum := "12797155163fb0094097db4287b32751e53adaf3f2dc45c16cacf3ff9403f243", func := "loop.example/pinfold/laws.FnExactSpanRoot", spec := "fnExactSpanRoot", recurses := true, apart := false }
def FnExactSpanRootSaid : Prop := fnExactSpanRootRow.holds Try.pinned (OpenSpec.ofChange fnExactSpanRootSpec)

/-- ITS FALSE NEIGHBOUR: 'it returns false'. Refute it at one input. -/
def fnExactSpanRootWrong : ChangeSpec := { name := "fnExactSpanRoot", fn := fun _ => fun
  | [d1, d2] => { results := [.lit (.bool false)], args := [d1, d2] }
  | _ => none }
def FnExactSpanRootWrongFalsely : Prop := fnExactSpanRootRow.holds Try.pinned (OpenSpec.ofChange fnExactSpanRootWrong)

/-- 'laws.FnExactPairHas': WHATEVER THE INPUT: true; the input reads as it did. -/
def fnExactPairHasSpec : ChangeSpec := { name := "fnExactPairHas", fn := fun _ => fun
  | [d1, d2, d3] => { results := [.lit (.bool true)], args := [d1, d2, d3] }
  | _ => none }
def fnExactPairHasRow : OpenClaim := { program := "ytlbihmicbncdiaa", sum := "12797155163fb0094097db4287b32751e53adaf3f2dc45c16cacf3ff9403f243", func := "loop.example/pinfold/laws.FnExactPairHas", spec := "fnExactPairHas", unfollowed := true, recurses := true, apart := false }
def FnExactPairHasSaid : Prop := fnExactPairHasRow.holds Try.pinned (OpenSpec.ofChange fnExactPairHasSpec)

/-- ITS FALSE NEIGHBOUR: 'it returns false'. Refute it at one input. -/
def fnExactPairHasWrong : ChangeSpec := { name := "fnExactPairHas", fn := fun _ => fun
  | [d1, d2, d3] => { results := [.lit (.bool false)], args := [d1, d2, d3] }
  | _ => none }
def FnExactPairHasWrongFalsely : Prop := fnExactPairHasRow.holds Try.pinned (OpenSpec.ofChange fnExactPairHasWrong)

/-- 'laws.FnExactSpanHas': WHATEVER THE INPUT: true; the input reads as it did. -/
def fnExactSpanHasSpec : ChangeSpec := { name := "fnExactSpanHas", fn := fun _ => fun
  | [d1, d2, d3] => { results := [.lit (.bool true)], args := [d1, d2, d3] }
  | _ => none }
def fnExactSpanHasRow : OpenClaim := { program := "ytlbihmicbncdiaa", sum := "12797155163fb0094097db4287b32751e53adaf3f2dc45c16cacf3ff9403f243", func := "loop.example/pinfold/laws.FnExactSpanHas", spec := "fnExactSpanHas", unfollowed := true, recurses := true, apart := false }
def FnExactSpanHasSaid : Prop := fnExactSpanHasRow.holds Try.pinned (OpenSpec.ofChange fnExactSpanHasSpec)

/-- ITS FALSE NEIGHBOUR: 'it returns false'. Refute it at one input. -/
def fnExactSpanHasWrong : ChangeSpec := { name := "fnExactSpanHas", fn := fun _ => fun
  | [d1, d2, d3] => { results := [.lit (.bool false)], args := [d1, d2, d3] }
  | _ => none }
def FnExactSpanHasWrongFalsely : Prop := fnExactSpanHasRow.holds Try.pinned (OpenSpec.ofChange fnExactSpanHasWrong)

/-- 'laws.FnExactBoxHas': WHATEVER THE INPUT: true; the input reads as it did. -/
def fnExactBoxHasSpec : ChangeSpec := { name := "fnExactBoxHas", fn := fun _ => fun
  | [d1, d2, d3] => { results := [.lit (.bool true)], args := [d1, d2, d3] }
  | _ => none }
def fnExactBoxHasRow : OpenClaim := { program := "ytlbihmicbncdiaa", sum := "12797155163fb0094097db4287b32751e53adaf3f2dc45c16cacf3ff9403f243", func := "loop.example/pinfold/laws.FnExactBoxHas", spec := "fnExactBoxHas", unfollowed := true, recurses := true, apart := false }
def FnExactBoxHasSaid : Prop := fnExactBoxHasRow.holds Try.pinned (OpenSpec.ofChange fnExactBoxHasSpec)

/-- ITS FALSE NEIGHBOUR: 'it returns false'. Refute it at one input. -/
def fnExactBoxHasWrong : ChangeSpec := { name := "fnExactBoxHas", fn := fun _ => fun
  | [d1, d2, d3] => { results := [.lit (.bool false)], args := [d1, d2, d3] }
  | _ => none }
def FnExactBoxHasWrongFalsely : Prop := fnExactBoxHasRow.holds Try.pinned (OpenSpec.ofChange fnExactBoxHasWrong)

/-- 'laws.FnExactBackPow': WHATEVER THE INPUT: true; the input reads as it did. -/
def fnExactBackPowSpec : ChangeSpec := { name := "fnExactBackPow", fn := fun _ => fun
  | [d1, d2, d3, d4] => { results := [.lit (.bool true)], args := [d1, d2, d3, d4] }
  | _ => none }
def fnExactBackPowRow : OpenClaim := { program := "ytlbihmicbncdiaa", sum := "12797155163fb0094097db4287b32751e53adaf3f2dc45c16cacf3ff9403f243", func := "loop.example/pinfold/laws.FnExactBackPow", spec := "fnExactBackPow", unfollowed := true, recurses := true, apart := false }
def FnExactBackPowSaid : Prop := fnExactBackPowRow.holds Try.pinned (OpenSpec.ofChange fnExactBackPowSpec)

/-- ITS FALSE NEIGHBOUR: 'it returns false'. Refute it at one input. -/
def fnExactBackPowWrong : ChangeSpec := { name := "fnExactBackPow", fn := fun _ => fun
  | [d1, d2, d3, d4] => { results := [.lit (.bool false)], args := [d1, d2, d3, d4] }
  | _ => none }
def FnExactBackPowWrongFalsely : Prop := fnExactBackPowRow.holds Try.pinned (OpenSpec.ofChange fnExactBackPowWrong)

/- THE SECOND FORM. 'bulk': how many values and letters a reading holds, each counted each time it is reached (what is shared counts as often as it is met; a slice's spare places count too). A statement '..UptoSaid' is the law's where the arguments, and the package variables that the reading takes, are together of bulk at most 1048576: NARROWER than '..Said'. Prove '..Said' where nothing that the law and all that it calls make is longer than what came in: it says more and counts as full. Else prove '..UptoSaid'. A law counts once. -/
mutual
def uptoBulk {H : Type} : DataW H → Nat
  | .lit (.string bytes) => bytes.length + 1
  | .lit _ => 1
  | .nil => 1
  | .ptr d => uptoBulk d + 1
  | .slice elems spare => uptoBulkAll elems + uptoBulkAll spare + 1
  | .agg parts => uptoBulkAll parts + 1
  | .iface _ d => uptoBulk d + 1
  | .map entries => uptoBulkEntries entries + 1
  | .held _ => 1
def uptoBulkAll {H : Type} : List (DataW H) → Nat
  | [] => 0
  | d :: r => uptoBulk d + uptoBulkAll r
def uptoBulkEntries {H : Type} : List (Lit × DataW H) → Nat
  | [] => 0
  | x :: r => uptoBulkEntry x + uptoBulkEntries r
def uptoBulkEntry {H : Type} : Lit × DataW H → Nat
  | (.string bytes, d) => bytes.length + uptoBulk d + 1
  | (_, d) => uptoBulk d + 1
 end
def uptoSmall : (H : Type) → List (DataW H) → Bool := fun _ ds => decide (uptoBulkAll ds ≤ 1048576)
def OpenSpec.upto (s : _root_.Go.ChangeSpec) : _root_.Go.OpenSpec := { _root_.Go.OpenSpec.ofChange s with cond := some uptoSmall }

/-- 'laws.FnExactFloatFrac', WHERE WHAT IT READS IS OF BULK AT MOST 1048576: true; the input reads as it did. -/
def fnExactFloatFracUptoRow : OpenClaim := { program := "ytlbihmicbncdiaa", sum := "12797155163fb0094097db4287b32751e53adaf3f2dc45c16cacf3ff9403f243", func := "loop.example/pinfold/laws.FnExactFloatFrac", spec := "fnExactFloatFrac", apart := false, narrowed := true }
def FnExactFloatFracUptoSaid : Prop := fnExactFloatFracUptoRow.holds Try.pinned (OpenSpec.upto fnExactFloatFracSpec)

/-- 'laws.FnExactSpanRoot', WHERE WHAT IT READS IS OF BULK AT MOST 1048576: true; the input reads as it did. -/
def fnExactSpanRootUptoRow : OpenClaim := { program := "ytlbihmicbncdiaa", sum := "12797155163fb0094097db4287b32751e53adaf3f2dc45c16cacf3ff9403f243", func := "loop.example/pinfold/laws.FnExactSpanRoot", spec := "fnExactSpanRoot", recurses := true, apart := false, narrowed := true }
def FnExactSpanRootUptoSaid : Prop := fnExactSpanRootUptoRow.holds Try.pinned (OpenSpec.upto fnExactSpanRootSpec)

/-- 'laws.FnExactPairHas', WHERE WHAT IT READS IS OF BULK AT MOST 1048576: true; the input reads as it did. -/
def fnExactPairHasUptoRow : OpenClaim := { program := "ytlbihmicbncdiaa", sum := "12797155163fb0094097db4287b32751e53adaf3f2dc45c16cacf3ff9403f243", func := "loop.example/pinfold/laws.FnExactPairHas", spec := "fnExactPairHas", unfollowed := true, recurses := true, apart := false, narrowed := true }
def FnExactPairHasUptoSaid : Prop := fnExactPairHasUptoRow.holds Try.pinned (OpenSpec.upto fnExactPairHasSpec)

/-- 'laws.FnExactSpanHas', WHERE WHAT IT READS IS OF BULK AT MOST 1048576: true; the input reads as it did. -/
def fnExactSpanHasUptoRow : OpenClaim := { program := "ytlbihmicbncdiaa", sum := "12797155163fb0094097db4287b32751e53adaf3f2dc45c16cacf3ff9403f243", func := "loop.example/pinfold/laws.FnExactSpanHas", spec := "fnExactSpanHas", unfollowed := true, recurses := true, apart := false, narrowed := true }
def FnExactSpanHasUptoSaid : Prop := fnExactSpanHasUptoRow.holds Try.pinned (OpenSpec.upto fnExactSpanHasSpec)

/-- 'laws.FnExactBoxHas', WHERE WHAT IT READS IS OF BULK AT MOST 1048576: true; the input reads as it did. -/
def fnExactBoxHasUptoRow : OpenClaim := { program := "ytlbihmicbncdiaa", sum := "12797155163fb0094097db4287b32751e53adaf3f2dc45c16cacf3ff9403f243", func := "loop.example/pinfold/laws.FnExactBoxHas", spec := "fnExactBoxHas", unfollowed := true, recurses := true, apart := false, narrowed := true }
def FnExactBoxHasUptoSaid : Prop := fnExactBoxHasUptoRow.holds Try.pinned (OpenSpec.upto fnExactBoxHasSpec)

/-- 'laws.FnExactBackPow', WHERE WHAT IT READS IS OF BULK AT MOST 1048576: true; the input reads as it did. -/
def fnExactBackPowUptoRow : OpenClaim := { program := "ytlbihmicbncdiaa", sum := "12797155163fb0094097db4287b32751e53adaf3f2dc45c16cacf3ff9403f243", func := "loop.example/pinfold/laws.FnExactBackPow", spec := "fnExactBackPow", unfollowed := true, recurses := true, apart := false, narrowed := true }
def FnExactBackPowUptoSaid : Prop := fnExactBackPowUptoRow.holds Try.pinned (OpenSpec.upto fnExactBackPowSpec)

end Rows
end Go.Proofs.Ytlbihmicbncdiaa
