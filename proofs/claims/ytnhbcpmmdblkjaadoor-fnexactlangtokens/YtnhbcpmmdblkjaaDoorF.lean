/-
  Naturals as lists of digits to the base 65536, the low one first.
-/
import Derived.Test.YtnhbcpmmdblkjaaDoorB
namespace Go.Proofs.YtnhbcpmmdblkjaaDoorAm
open Go
set_option linter.unusedVariables false
set_option linter.unusedSimpArgs false

def val:List Int→Int
 | []=>0
 | x::l=>x + 65536 * val l
end Go.Proofs.YtnhbcpmmdblkjaaDoorAm
