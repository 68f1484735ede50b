/-
  Decimals of naturals: what both texts write; the law.
-/
import Derived.Test.YtnhbcpmmdblkjaaDoorF
import Derived.Lib.ItoaNum
namespace Go.Proofs.YtnhbcpmmdblkjaaDoorAm
open Go
set_option linter.unusedVariables false
set_option linter.unusedSimpArgs false

def BA (l:List UInt8):ByteArray:=⟨l.toArray⟩
theorem BA_size (l:List UInt8):(BA l).size=l.length:=by simp [BA,ByteArray.size]
theorem BA_data (l:List UInt8):(BA l).data.toList=l:=by simp [BA]
theorem BA_empty:ByteArray.empty=BA []:=rfl
def byteOf (n:Int):UInt8:=UInt8.ofNat n.toNat
theorem bytesOf_eq (l : List Int) : bytesOf l = BA (l.map byteOf) := by
  have key : ∀ (l : List Int) (m : List UInt8), l.foldl (fun r n => r.push (UInt8.ofNat n.toNat)) (BA m) = BA (m ++ l.map byteOf) := by
    intro l
    induction l with
    | nil => intro m; simp
    | cons x r ih =>
      intro m
      have : (BA m).push (UInt8.ofNat x.toNat) = BA (m ++ [byteOf x]) := by
        apply ByteArray.ext
        simp [BA, ByteArray.push, byteOf]
      rw [List.foldl_cons, this, ih]
      simp
  have := key l []
  simpa [bytesOf, BA_empty] using this
theorem eqS_self (x:ByteArray):eqS x x=true:=by simp [eqS]
end Go.Proofs.YtnhbcpmmdblkjaaDoorAm
