/-
  What the reference's functions on naturals compute, in plain words: the four operations.
-/
import Derived.Test.YtgabephijgjogaaG
namespace Go.Proofs.YtgabephijgjogaaAm
open Go
set_option linter.unusedVariables false
set_option linter.unusedSimpArgs false

theorem div_uniq {a b q r : Int} {A D : Nat} (hA : a = A) (hD : b = D) (h : a = q * b + r) (h0 : 0 ≤ r) (h1 : r < b) : q = ((A / D : Nat) : Int) ∧ r = ((A % D : Nat) : Int) := by
  subst hA hD
  have e1 : (A : Int) / D = q := by
    rw [h, Int.add_comm, Int.add_mul_ediv_right _ _ (by omega), Int.ediv_eq_zero_of_lt h0 h1]; omega
  have e2 : (A : Int) % D = r := by
    rw [h, Int.add_comm, Int.add_mul_emod_self_right, Int.emod_eq_of_lt h0 h1]
  exact ⟨by rw [← e1]; rfl, by rw [← e2]; rfl⟩
theorem set_len {l : List Int} {i : Nat} {x : Int} : (l.set i x).length = l.length := List.length_set
theorem prod_le {x y : Int} (hx : 0 ≤ x ∧ x < 65536) (hy : 0 ≤ y ∧ y < 65536) : 0 ≤ x * y ∧ x * y ≤ 4294836225 := by
  have h1 := Int.mul_nonneg hx.1 hy.1
  have h2 := Int.mul_le_mul (show x ≤ 65535 by omega) (show y ≤ 65535 by omega) hy.1 (by omega)
  omega
theorem tdiv_b {x : Int} (h : 0 ≤ x) : Int.tdiv x 65536 = x / 65536 := Int.tdiv_eq_ediv_of_nonneg h
end Go.Proofs.YtgabephijgjogaaAm
