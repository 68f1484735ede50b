/-
  Decimals of naturals: what both texts write; the law.
-/
import Derived.Test.YtnhbcpmmdblkjaaGreatDoorW
namespace Go.Proofs.YtnhbcpmmdblkjaaGreatDoorAm
open Go
set_option linter.unusedVariables false
set_option linter.unusedSimpArgs false

def BA (l : List UInt8) : ByteArray := ⟨l.toArray⟩
theorem BA_append (l m : List UInt8) : BA l ++ BA m = BA (l ++ m) := by
 apply ByteArray.ext
 rw [ByteArray.data_append]
 simp [BA]
theorem BA_size (l : List UInt8) : (BA l).size = l.length := by simp [BA, ByteArray.size]
theorem BA_data (l : List UInt8) : (BA l).data.toList = l := by simp [BA]
theorem BA_empty : ByteArray.empty = BA [] := rfl
end Go.Proofs.YtnhbcpmmdblkjaaGreatDoorAm
