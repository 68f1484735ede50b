/-
  Floats by their order numbers: parts, and the float of a number times a power of two: the arithmetic.
-/
import Derived.Test.YtgabephijgjogaaB
import Derived.Lib.TrailingZeros
namespace Go.Proofs.YtgabephijgjogaaAm
open Go
set_option linter.unusedVariables false
set_option linter.unusedSimpArgs false

theorem shrN {q : IntKind} {x k : Nat} (hq : q.bits = 64) (hk : k ≤ 64) : shrI q (x : Int) (k : Int) = ((x / 2 ^ k : Nat) : Int) := by
  unfold shrI
  have h1 : min (k : Int).toNat (IntKind.bits q) = k := by rw [hq]; omega
  have h2 : (0 : Int) ≤ 2 ^ k := Int.le_of_lt (Int.pow_pos (by decide))
  rw [h1, Int.fdiv_eq_ediv_of_nonneg _ h2, show (2 : Int) ^ k = ((2 ^ k : Nat) : Int) from (Int.natCast_pow 2 k).symm]; rfl
end Go.Proofs.YtgabephijgjogaaAm
