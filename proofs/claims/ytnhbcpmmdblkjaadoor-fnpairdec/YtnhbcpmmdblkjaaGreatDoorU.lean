/-
  What the functions on fractions compute, in plain words: relations, floors, quotients.
-/
import Derived.Test.YtnhbcpmmdblkjaaGreatDoorT
namespace Go.Proofs.YtnhbcpmmdblkjaaGreatDoorAm
open Go
set_option linter.unusedVariables false
set_option linter.unusedSimpArgs false

theorem wmE {α:Type} (N:Nat) (s:Bool) (q:Nat) (k:Bool→List Int→List Int→Option α):wea N s (digs q) k=k (s && decide (q ≠ 0)) (digs q) (digs 1):=by
 rw [wea.eq]
 unfold wea.b
 simp only [wf7,← wmd]
 cases s
 ·simp only [cond_false,Bool.false_and]
 ·simp only [cond_true,Bool.true_and]
end Go.Proofs.YtnhbcpmmdblkjaaGreatDoorAm
