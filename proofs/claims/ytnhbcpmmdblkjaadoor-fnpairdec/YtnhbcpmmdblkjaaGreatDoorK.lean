/-
  What the functions on whole numbers compute, in plain words: quotients, divisors, roots, shifts; and the laws.
-/
import Derived.Test.YtnhbcpmmdblkjaaGreatDoorW
namespace Go.Proofs.YtnhbcpmmdblkjaaGreatDoorAm
open Go
set_option linter.unusedVariables false
set_option linter.unusedSimpArgs false

theorem wk7 {i:Nat} (h:i≤4096):2 ^ i < cap0:=by
 obtain ⟨E,hE⟩:∃ E,E=257:=⟨_,rfl⟩
 exact wh9 (whJ (E:=E) (by omega)) (by omega)
end Go.Proofs.YtnhbcpmmdblkjaaGreatDoorAm
