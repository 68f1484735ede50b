/-
  What the functions on fractions compute, in plain words.
-/
import Derived.Test.YtnhbcpmmdblkjaaDoorR
namespace Go.Proofs.YtnhbcpmmdblkjaaDoorAm
open Go
set_option linter.unusedVariables false
set_option linter.unusedSimpArgs false

abbrev R4 := Bool × Bool × List Int × List Int
def bad4 : R4 := (false, false, [], [])
end Go.Proofs.YtnhbcpmmdblkjaaDoorAm
