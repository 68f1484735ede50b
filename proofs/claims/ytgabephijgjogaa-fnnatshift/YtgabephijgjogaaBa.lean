/-
  Floats by their order numbers: parts, and the float of a number times a power of two: the arithmetic.
-/
import Derived.Test.YtgabephijgjogaaB
import Derived.Lib.TrailingZeros
namespace Go.Proofs.YtgabephijgjogaaAm
open Go
set_option linter.unusedVariables false
set_option linter.unusedSimpArgs false

theorem blen_spec : ∀ (n : Nat), n < 2 ^ 64 → n ≠ 0 → ∃ k, blen n = k + 1 ∧ 2 ^ k ≤ n ∧ n < 2 ^ (k + 1) := by
  intro n
  induction n using Nat.strongRecOn with
  | ind n ih =>
    intro h h0
    rw [blen_step h h0]
    by_cases h1 : n / 2 = 0
    · refine ⟨0, by rw [h1]; rfl, by omega, by omega⟩
    · obtain ⟨k, e, a, b⟩ := ih (n / 2) (by omega) (by omega) h1
      refine ⟨k + 1, by rw [e], ?_, ?_⟩
      · rw [Nat.pow_succ]; omega
      · rw [Nat.pow_succ]; omega
end Go.Proofs.YtgabephijgjogaaAm
