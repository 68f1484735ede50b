/-
  What the functions on whole numbers compute, in plain words: quotients, divisors, roots, shifts; and the laws.
-/
import Derived.Test.YtlbihmicbncdiaaDoorW
namespace Go.Proofs.YtlbihmicbncdiaaDoorAm
open Go
set_option linter.unusedVariables false
set_option linter.unusedSimpArgs false

theorem pow_lt_cap0 {i : Nat} (h : i ≤ 4096) : 2 ^ i < cap0 := by
  obtain ⟨E, hE⟩ : ∃ E, E = 257 := ⟨_, rfl⟩
  exact lt_cap0 (pow2_cap (E := E) (by omega)) (by omega)
end Go.Proofs.YtlbihmicbncdiaaDoorAm
