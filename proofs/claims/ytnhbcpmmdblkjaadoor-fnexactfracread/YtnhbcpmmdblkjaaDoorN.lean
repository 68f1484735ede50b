/-
  Whole numbers added, taken off, multiplied and compared; numbers that are drawn; and the laws on them.
-/
import Derived.Test.YtnhbcpmmdblkjaaDoorK
import Derived.Test.YtnhbcpmmdblkjaaDoorB
import Derived.Test.YtnhbcpmmdblkjaaDoorS
namespace Go.Proofs.YtnhbcpmmdblkjaaDoorAm
open Go
set_option linter.unusedVariables false
set_option linter.unusedSimpArgs false

theorem fits_of {n : Nat} (h : n < 65536 ^ 256) : fits n = (digs n, true) := by
  unfold fits
  rw [if_pos (digs_len_le h)]
theorem fits_cases (n : Nat) : (fits n = (digs n, true) ∧ n < 65536 ^ 256) ∨ fits n = ([], false) := by
  unfold fits
  by_cases h : (digs n).length ≤ 256
  · rw [if_pos h]; exact .inl ⟨rfl, digs_lt_pow h⟩
  · rw [if_neg h]; exact .inr rfl
end Go.Proofs.YtnhbcpmmdblkjaaDoorAm
