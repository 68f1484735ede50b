/-
  Reading fractions: what both texts read; the law.
-/
import Derived.Test.YtnhbcpmmdblkjaaDoorGa
import Derived.Test.YtnhbcpmmdblkjaaDoorF
import Derived.Test.YtnhbcpmmdblkjaaDoorGc
namespace Go.Proofs.YtnhbcpmmdblkjaaDoorAm
open Go
set_option linter.unusedVariables false
set_option linter.unusedSimpArgs false

theorem BA_extract (l:List UInt8) (i j:Nat):(BA l).extract i j=BA ((l.drop i).take (j - i)):=by
 apply ByteArray.ext
 rw [ByteArray.data_extract]
 apply Array.toList_inj.1
 simp [BA,List.extract]
theorem BA_from (l:List UInt8) (i:Nat):(BA l).extract i (BA l).size=BA (l.drop i):=by
 rw [BA_extract,BA_size,List.take_of_length_le (by simp)]
theorem BA_upto (l:List UInt8) (j:Nat):(BA l).extract 0 j=BA (l.take j):=by
 rw [BA_extract]; simp
theorem cutPrefix_eq {α:Type} (N:Nat) (x:List UInt8) (c:UInt8) (k:ByteArray→Bool→Option α):strings_CutPrefix N (BA x) (BA [c]) k=if x[0]?=some c then k (BA (x.drop 1)) true else k (BA x) false:=by
 rw [strings_CutPrefix.eq]
 unfold strings_CutPrefix.b
 rw [internal_stringslite_CutPrefix.eq]
 unfold internal_stringslite_CutPrefix.b
 rw [internal_stringslite_HasPrefix.eq]
 unfold internal_stringslite_HasPrefix.b
 simp only [BA_size,List.length_cons,List.length_nil,Nat.zero_add]
 have e1:(((1:Nat):Int)).toNat=1:=rfl
 by_cases h0:x.length=0
 ·have:x=[]:=List.eq_nil_of_length_eq_zero h0
  subst this
  have c1:¬ ((1:Nat):Int)≤(([]:List UInt8).length:Int):=by simp
  simp only [c1,decide_false,cond_false,Bool.not_false,cond_true]
  simp
 ·have hi:0 < x.length:=by omega
  have c1:((1:Nat):Int)≤((x.length:Nat):Int):=by omega
  have c2:(0:Int)≤((1:Nat):Int):=by omega
  have hf:(BA x).extract 1 x.length=BA (x.drop 1):=by have:=BA_from x 1; rwa [BA_size] at this
  have ht:x.take 1=[x[0]]:=by
   cases x with
   | nil=>simp at hi
   | cons a r=>rfl
  simp only [c1,c2,decide_true,cond_true,e1,BA_upto,eqS_BA,ht,hf,List.getElem?_eq_getElem hi]
  by_cases h:x[0]=c
  ·simp [h]
  ·simp [h]
end Go.Proofs.YtnhbcpmmdblkjaaDoorAm
