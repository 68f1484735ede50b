/-
  What the laws' own functions on naturals and fractions compute, and which naturals and fractions are good.
-/
import Derived.Test.YtlbihmicbncdiaaDoorQ
namespace Go.Proofs.YtlbihmicbncdiaaDoorAm
open Go
set_option linter.unusedVariables false
set_option linter.unusedSimpArgs false

abbrev FracD := Bool × (List Int) × (List Int) × Unit
theorem len_cast_zero (a : Nat) : decide (((digs a).length : Int) = 0) = decide (a = 0) := by
  by_cases h : a = 0
  · subst h; simp [digs_zero]
  · have h2 : (digs a).length ≠ 0 := fun e => h (digs_len_zero.1 e)
    have : ¬ (((digs a).length : Int) = 0) := by omega
    simp only [h, this, decide_false]
theorem len_cast_pos (a : Nat) : decide ((0 : Int) < ((digs a).length : Int)) = decide (a ≠ 0) := by
  by_cases h : a = 0
  · subst h; simp [digs_zero]
  · have h2 : (digs a).length ≠ 0 := fun e => h (digs_len_zero.1 e)
    have : (0 : Int) < ((digs a).length : Int) := by omega
    simp only [h, this, Ne, not_false_eq_true, decide_true]
theorem cap0_lt {a : Nat} (h : a < cap0) : a < cap := by have := cap0_step; omega
theorem digs1 : digs 1 = [(1 : Int)] := digs_one (by omega) (by omega)
end Go.Proofs.YtlbihmicbncdiaaDoorAm
