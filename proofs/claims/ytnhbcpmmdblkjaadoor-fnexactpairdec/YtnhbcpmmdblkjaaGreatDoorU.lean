/-
  What the functions on fractions compute, in plain words: relations, floors, quotients.
-/
import Derived.Test.YtnhbcpmmdblkjaaGreatDoorS
namespace Go.Proofs.YtnhbcpmmdblkjaaGreatDoorAm
open Go
set_option linter.unusedVariables false
set_option linter.unusedSimpArgs false

theorem impl_whole_eq {α : Type} (N : Nat) (s : Bool) (q : Nat) (k : Bool → List Int → List Int → Option α) : impl_whole N s (digs q) k = k (s && decide (q ≠ 0)) (digs q) (digs 1) := by
 rw [impl_whole.eq]
 unfold impl_whole.b
 simp only [len_cast_pos, ← digs1]
 cases s
 ·simp only [cond_false, Bool.false_and]
 ·simp only [cond_true, Bool.true_and]
end Go.Proofs.YtnhbcpmmdblkjaaGreatDoorAm
