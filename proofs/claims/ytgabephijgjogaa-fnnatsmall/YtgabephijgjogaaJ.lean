/-
  What the reference's functions on naturals compute, in plain words: quotients, divisors.
-/
import Derived.Test.YtgabephijgjogaaI
namespace Go.Proofs.YtgabephijgjogaaAm
open Go
set_option linter.unusedVariables false
set_option linter.unusedSimpArgs false

theorem cmpN_neg {a b : Nat} : decide (cmpN a b < (0 : Int)) = decide (a < b) := by
  unfold cmpN
  by_cases h : a < b
  · simp [h]
  · by_cases h2 : b < a <;> simp [h, h2]
theorem scale_eq {a b s : Nat} (hs : 0 < s) : a * s / (b * s) = a / b ∧ a * s % (b * s) / s = a % b := by
  refine ⟨Nat.mul_div_mul_right a b hs, ?_⟩
  rw [Nat.mul_mod_mul_right, Nat.mul_div_cancel _ hs]
end Go.Proofs.YtgabephijgjogaaAm
