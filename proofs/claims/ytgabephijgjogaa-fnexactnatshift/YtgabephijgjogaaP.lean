/-
  What the program's functions on naturals compute, in plain words: long division.
-/
import Derived.Test.YtgabephijgjogaaM
namespace Go.Proofs.YtgabephijgjogaaAm
open Go
set_option linter.unusedVariables false
set_option linter.unusedSimpArgs false

theorem dig_digit : ∀ {l : List Int} {n : Nat} (m : Nat), Dig l → val l = (n : Int) → l.getD m 0 = ((n / 65536 ^ m % 65536 : Nat) : Int)
  | [], n, m, h, hv => by
    simp only [val] at hv
    have : n = 0 := by omega
    subst this; simp
  | x :: l, n, 0, h, hv => by
    rw [dig_cons] at h
    simp only [val] at hv
    simp; omega
  | x :: l, n, m + 1, h, hv => by
    rw [dig_cons] at h
    simp only [val] at hv
    have := dig_digit (n := n / 65536) m h.2 (by omega)
    rw [List.getD_cons_succ, this, Nat.pow_succ, Nat.mul_comm (65536 ^ m), ← Nat.div_div_eq_div_mul]
/-- The guess of Knuth's division from three digits over two: right, or one too many. -/
theorem knuth {U D P W Y : Nat} (hP : 0 < P) (hU : U < D * 65536) (hW : W = D / P) (hY : Y = U / P) (hB : 65536 ≤ W) :
    U / D ≤ min 65535 (Y / W) ∧ min 65535 (Y / W) ≤ U / D + 1 := by
  have h1 : W * P ≤ D := by rw [hW]; exact Nat.div_mul_le_self D P
  have hDp : 0 < D := Nat.lt_of_lt_of_le (Nat.mul_pos (by omega) hP) h1
  have h2 : U / D * D ≤ U := Nat.div_mul_le_self U D
  have h3 : U / D < 65536 := (Nat.div_lt_iff_lt_mul hDp).2 (by rw [Nat.mul_comm]; exact hU)
  constructor
  · refine Nat.le_min.2 ⟨by omega, ?_⟩
    rw [Nat.le_div_iff_mul_le (by omega), hY, Nat.le_div_iff_mul_le hP, Nat.mul_assoc]
    exact Nat.le_trans (Nat.mul_le_mul_left _ h1) h2
  · have hm1 : min 65535 (Y / W) ≤ 65535 := Nat.min_le_left _ _
    have hm2 : min 65535 (Y / W) * W ≤ Y := Nat.le_trans (Nat.mul_le_mul_right W (Nat.min_le_right _ _)) (Nat.div_mul_le_self Y W)
    generalize min 65535 (Y / W) = m at *
    have h4 : Y * P ≤ U := by rw [hY]; exact Nat.div_mul_le_self U P
    have h5 : D < W * P + P := by
      have := Nat.lt_mul_div_succ D hP
      rw [← hW, Nat.mul_comm, Nat.add_mul] at this; omega
    have h6 : m * W * P ≤ Y * P := Nat.mul_le_mul_right P hm2
    have h7 : m * D ≤ m * (W * P + P) := Nat.mul_le_mul_left m (by omega)
    have h8 : m * P ≤ 65535 * P := Nat.mul_le_mul_right P hm1
    have h9 : 65536 * P ≤ W * P := Nat.mul_le_mul_right P hB
    rw [Nat.mul_add, ← Nat.mul_assoc] at h7
    have h10 : m * D < U + D := by omega
    have h11 : U < (U / D + 1) * D := by
      have := Nat.lt_mul_div_succ U hDp
      rwa [Nat.mul_comm] at this
    have h12 : m * D < (U / D + 2) * D := by
      rw [show (U / D + 2) = (U / D + 1) + 1 by omega, Nat.add_mul _ 1, Nat.one_mul]; omega
    have := Nat.lt_of_mul_lt_mul_right h12
    omega
end Go.Proofs.YtgabephijgjogaaAm
