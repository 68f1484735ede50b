/-
  Reading fractions: what both texts read; the law.
-/
import Derived.Test.YtnhbcpmmdblkjaaDoorGa
import Derived.Test.YtnhbcpmmdblkjaaDoorR
import Derived.Test.YtnhbcpmmdblkjaaDoorGc
namespace Go.Proofs.YtnhbcpmmdblkjaaDoorAm
open Go
set_option linter.unusedVariables false
set_option linter.unusedSimpArgs false

theorem BA_extract (l : List UInt8) (i j : Nat) : (BA l).extract i j = BA ((l.drop i).take (j - i)) := by
  apply ByteArray.ext
  rw [ByteArray.data_extract]
  apply Array.toList_inj.1
  simp [BA, List.extract]
theorem BA_from (l : List UInt8) (i : Nat) : (BA l).extract i (BA l).size = BA (l.drop i) := by
  rw [BA_extract, BA_size, List.take_of_length_le (by simp)]
theorem BA_upto (l : List UInt8) (j : Nat) : (BA l).extract 0 j = BA (l.take j) := by
  rw [BA_extract]; simp
end Go.Proofs.YtnhbcpmmdblkjaaDoorAm
