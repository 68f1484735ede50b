/-
  Drawn boxes and drawn patterns; the law of patterns and back.
-/
import Derived.Test.YtaelbfbplamahaaDoorDa
namespace Go.Proofs.YtaelbfbplamahaaDoorAm
open Go
set_option linter.unusedVariables false
set_option linter.unusedSimpArgs false

theorem wrapU_range (x : Int) : 0 ≤ IntKind.u64.wrap x ∧ IntKind.u64.wrap x < 18446744073709551616 := by
  rw [u64w]; omega
end Go.Proofs.YtaelbfbplamahaaDoorAm
