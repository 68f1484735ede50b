/-
  What the functions on bits and pairs compute, in plain words.
-/
import Derived.Test.YtgabephijgjogaaFns
namespace Go.Proofs.YtgabephijgjogaaAm
open Go
set_option linter.unusedVariables false
set_option linter.unusedSimpArgs false

def top (w : Int) : Int := if w = 32 then 2139095040 else if w = 64 then 9218868437227405312 else 0
theorem u64w (x : Int) : IntKind.u64.wrap x = x % 18446744073709551616 := by
  simp [IntKind.wrap, IntKind.bits, IntKind.signed]
theorem i64w (x : Int) : IntKind.i64.wrap x = (x + 9223372036854775808) % 18446744073709551616 - 9223372036854775808 := by
  have h1 : (2 : Int) ^ 64 = 18446744073709551616 := rfl
  have h2 : (2 : Int) ^ (64 - 1) = 9223372036854775808 := rfl
  simp only [IntKind.wrap, IntKind.bits, IntKind.signed, Bool.true_and, decide_eq_true_eq, h1, h2]
  split <;> omega
theorem wrap_i64 {x : Int} (h1 : -9223372036854775808 ≤ x) (h2 : x ≤ 9223372036854775807) : IntKind.i64.wrap x = x := by
  simp only [u64w, i64w]
  omega
theorem wrap_u64 {x : Int} (h1 : 0 ≤ x) (h2 : x ≤ 18446744073709551615) : IntKind.u64.wrap x = x := by
  simp only [u64w, i64w]
  omega
theorem impl_in_eq {α : Type} (N : Nat) (n lo hi : Int) (k : Bool → Option α) : impl_in N n lo hi k = k (decide (lo ≤ n) && decide (n ≤ hi)) := by
  rw [impl_in.eq]
  unfold impl_in.b
  by_cases h : lo ≤ n <;> simp [h]
end Go.Proofs.YtgabephijgjogaaAm
