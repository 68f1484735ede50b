/-
  What the functions on naturals compute, in plain words: roots.
-/
import Derived.Test.YtnhbcpmmdblkjaaDoorR
namespace Go.Proofs.YtnhbcpmmdblkjaaDoorAm
open Go
set_option linter.unusedVariables false
set_option linter.unusedSimpArgs false

theorem pow2_cap {i E : Nat} (h : i / 16 + 1 ≤ E) : 2 ^ i < 65536 ^ E := by
  have h1 : 2 ^ i = 65536 ^ (i / 16) * 2 ^ (i % 16) := by
    rw [show (65536 : Nat) = 2 ^ 16 by decide, ← Nat.pow_mul, ← Nat.pow_add]
    congr 1; omega
  have h2 : 2 ^ (i % 16) ≤ 32768 := Nat.pow_le_pow_right (n := 2) (show 2 > 0 by omega) (show i % 16 ≤ 15 by omega)
  have h3 : 65536 ^ (i / 16) * 2 ^ (i % 16) ≤ 65536 ^ (i / 16) * 32768 := Nat.mul_le_mul_left _ h2
  have h4 : 0 < 65536 ^ (i / 16) := Nat.pow_pos (by omega)
  have h5 : 2 ^ i < 65536 ^ (i / 16 + 1) := by rw [h1, Nat.pow_succ]; omega
  exact Nat.lt_of_lt_of_le h5 (pow_up h)
end Go.Proofs.YtnhbcpmmdblkjaaDoorAm
