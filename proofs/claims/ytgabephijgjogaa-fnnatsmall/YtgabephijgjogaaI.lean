/-
  What the reference's functions on naturals compute, in plain words: sums, differences, quotients, divisors.
-/
import Derived.Test.YtgabephijgjogaaH
namespace Go.Proofs.YtgabephijgjogaaAm
open Go
set_option linter.unusedVariables false
set_option linter.unusedSimpArgs false

theorem ipow_cast (i : Nat) : (65536 : Int) ^ i = ((65536 ^ i : Nat) : Int) := (Int.natCast_pow _ _).symm
end Go.Proofs.YtgabephijgjogaaAm
