/-
  Literals: what the reference reads.
-/
import Derived.Test.YtnhbcpmmdblkjaaDoorHb
import Derived.Test.YtnhbcpmmdblkjaaDoorGd
namespace Go.Proofs.YtnhbcpmmdblkjaaDoorAm
open Go
set_option linter.unusedVariables false
set_option linter.unusedSimpArgs false

def expS0 (m:Bool) (l:List UInt8):Option Int :=
 if (digT l).length=0∨3 < (digT l).length∨(1 < (digT l).length∧l[0]?=some 48)∨(m=true∧l[0]?=some 48)∨400 < valT (digT l) then none
 else some (if m=true then -(valT (digT l):Int) else (valT (digT l):Int))
theorem expS0_some {m:Bool} {l:List UInt8}:expS m l=if digR l=[] then expS0 m l else none:=by
 unfold expS expS0
 by_cases h:digR l=[]
 ·rw [if_pos h]
  by_cases h2:(digT l).length=0∨3 < (digT l).length∨(1 < (digT l).length∧l[0]?=some 48)∨(m=true∧l[0]?=some 48)∨400 < valT (digT l)
  ·rw [if_pos h2,if_pos]
   rcases h2 with q | q | q | q | q
   ·exact .inl q
   ·exact .inr (.inl q)
   ·exact .inr (.inr (.inl q))
   ·exact .inr (.inr (.inr (.inl q)))
   ·exact .inr (.inr (.inr (.inr (.inl q))))
  ·have h3:¬ ((digT l).length=0∨3 < (digT l).length∨(1 < (digT l).length∧l[0]?=some 48)∨(m=true∧l[0]?=some 48)∨400 < valT (digT l)∨digR l ≠ []):=by
    rintro (q | q | q | q | q | q)
    ·exact h2 (.inl q)
    ·exact h2 (.inr (.inl q))
    ·exact h2 (.inr (.inr (.inl q)))
    ·exact h2 (.inr (.inr (.inr (.inl q))))
    ·exact h2 (.inr (.inr (.inr (.inr q))))
    ·exact q h
   rw [if_neg h2,if_neg h3]
 ·rw [if_neg h,if_pos (.inr (.inr (.inr (.inr (.inr h)))))]
theorem app_get {pre l:List UInt8} {j:Nat}:(pre++l)[pre.length + j]?=l[j]?:=by
 rw [List.getElem?_append_right (by omega),Nat.add_sub_cancel_left]
theorem u8_eq {a:UInt8} {n:Nat} (hn:n < 256):((a.toNat:Nat):Int)=(n:Int)↔a=UInt8.ofNat n:=by
 constructor
 ·intro h
  have:a.toNat=n:=by omega
  rw [← UInt8.ofNat_toNat (x:=a),this]
 ·intro h; rw [h]; simp; omega
end Go.Proofs.YtnhbcpmmdblkjaaDoorAm
