/-
  What the functions on boxes compute, in plain words.
-/
import Derived.Test.YtnhbcpmmdblkjaaDoorA
namespace Go.Proofs.YtnhbcpmmdblkjaaDoorAm
open Go
set_option linter.unusedVariables false
set_option linter.unusedSimpArgs false

theorem cast_lt {i n:Nat} (h:i < n):decide ((i:Int) < (n:Int))=true:=by simpa using h
theorem cast_nlt {i n:Nat} (h:¬ i < n):decide ((i:Int) < (n:Int))=false:=by simpa using h
theorem cast_neg (i:Nat):decide ((i:Int) < 0)=false:=by simp
theorem cast_nn (i:Nat):decide ((0:Int)≤(i:Int))=true:=by simp
theorem succ_i {i:Nat} (h:i < 4611686018427387904):IntKind.i64.wrap ((i:Int) + 1)=((i + 1:Nat):Int):=by
 rw [wrap_i64 (by omega) (by omega)]; rfl
end Go.Proofs.YtnhbcpmmdblkjaaDoorAm
