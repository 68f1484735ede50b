/-
  Whole numbers added, taken off, multiplied and compared; numbers that are drawn; and the laws on them.
-/
import Derived.Test.YtnhbcpmmdblkjaaGreatDoorK
import Derived.Test.YtnhbcpmmdblkjaaGreatDoorY
namespace Go.Proofs.YtnhbcpmmdblkjaaGreatDoorAm
open Go
set_option linter.unusedVariables false
set_option linter.unusedSimpArgs false

theorem cap2 {a:Nat} (h:a < 65536 ^ 256):a < cap:=wfg (c256 h)
end Go.Proofs.YtnhbcpmmdblkjaaGreatDoorAm
