/-
  The values of floats as fractions; what a pair, a span, a box has; the laws.
-/
import Derived.Test.YtlbihmicbncdiaaDoorR
import Derived.Test.YtlbihmicbncdiaaDoorW
import Derived.Test.YtlbihmicbncdiaaDoorBb
import Derived.Test.YtlbihmicbncdiaaDoorB
namespace Go.Proofs.YtlbihmicbncdiaaDoorAm
open Go
set_option linter.unusedVariables false
set_option linter.unusedSimpArgs false

theorem spec_l8Frac_eq {α : Type} (N : Nat) (f : FracD) (k : FracD → Option α) : spec_l8Frac N f k = k f := by
  rw [spec_l8Frac.eq]; rfl
end Go.Proofs.YtlbihmicbncdiaaDoorAm
