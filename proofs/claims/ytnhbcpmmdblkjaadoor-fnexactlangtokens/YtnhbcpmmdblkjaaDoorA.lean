/-
  What the functions on bits and pairs compute, in plain words.
-/
import Derived.Test.YtnhbcpmmdblkjaaDoorFns
namespace Go.Proofs.YtnhbcpmmdblkjaaDoorAm
open Go
set_option linter.unusedVariables false
set_option linter.unusedSimpArgs false

theorem u64w (x:Int):IntKind.u64.wrap x=x % 18446744073709551616:=by
 simp [IntKind.wrap,IntKind.bits,IntKind.signed]
theorem i64w (x:Int):IntKind.i64.wrap x=(x + 9223372036854775808) % 18446744073709551616 - 9223372036854775808:=by
 have h1:(2:Int) ^ 64=18446744073709551616:=rfl
 have h2:(2:Int) ^ (64 - 1)=9223372036854775808:=rfl
 simp only [IntKind.wrap,IntKind.bits,IntKind.signed,Bool.true_and,decide_eq_true_eq,h1,h2]
 split <;> omega
theorem wrap_i64 {x:Int} (h1:-9223372036854775808≤x) (h2:x≤9223372036854775807):IntKind.i64.wrap x=x:=by
 simp only [u64w,i64w]
 omega
theorem wrap_u64 {x:Int} (h1:0≤x) (h2:x≤18446744073709551615):IntKind.u64.wrap x=x:=by
 simp only [u64w,i64w]
 omega
end Go.Proofs.YtnhbcpmmdblkjaaDoorAm
