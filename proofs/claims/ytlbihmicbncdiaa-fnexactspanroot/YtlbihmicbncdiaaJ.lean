/-
  What the reference's functions on naturals compute, in plain words: quotients, divisors.
-/
import Derived.Test.YtlbihmicbncdiaaI
namespace Go.Proofs.YtlbihmicbncdiaaAm
open Go
set_option linter.unusedVariables false
set_option linter.unusedSimpArgs false

theorem dig_val_mul {x : Int} {l : List Int} : val (x :: l) = x + 65536 * val l := rfl
theorem cmpN_pos {a b : Nat} : decide ((0 : Int) < cmpN a b) = decide (b < a) := by
  unfold cmpN
  by_cases h : a < b
  · have : ¬ b < a := by omega
    simp [h, this]
  · by_cases h2 : b < a <;> simp [h, h2]
theorem cmpN_neg {a b : Nat} : decide (cmpN a b < (0 : Int)) = decide (a < b) := by
  unfold cmpN
  by_cases h : a < b
  · simp [h]
  · by_cases h2 : b < a <;> simp [h, h2]
theorem cmpN_le {a b : Nat} : decide (cmpN a b ≤ (0 : Int)) = decide (a ≤ b) := by
  unfold cmpN
  by_cases h : a < b
  · have : a ≤ b := by omega
    simp [h, this]
  · by_cases h2 : b < a
    · have : ¬ a ≤ b := by omega
      simp [h, h2, this]
    · have : a ≤ b := by omega
      simp [h, h2, this]
theorem cmpN_ge {a b : Nat} : decide ((0 : Int) ≤ cmpN a b) = decide (b ≤ a) := by
  unfold cmpN
  by_cases h : a < b
  · have : ¬ b ≤ a := by omega
    simp [h, this]
  · have h3 : b ≤ a := by omega
    by_cases h2 : b < a <;> simp [h, h2, h3]
theorem cmpN_eq {a b : Nat} : decide (cmpN a b = (0 : Int)) = decide (a = b) := by
  unfold cmpN
  by_cases h : a < b
  · have : ¬ a = b := by omega
    simp [h, this]
  · by_cases h2 : b < a
    · have : ¬ a = b := by omega
      simp [h, h2, this]
    · have : a = b := by omega
      simp [h, h2, this]
/-- The guess of a digit is not below it. -/
theorem guess_ge {c D L : Nat} (hD : D ≠ 0) (hL : L = (digs D).length - 1) (hc : c < D * 65536) :
    c / D ≤ c / 65536 ^ L / (D / 65536 ^ L) ∧ c / D < 65536 ∧ c / 65536 ^ L / 65536 < 65536 := by
  have hp : 0 < 65536 ^ L := Nat.pow_pos (by omega)
  have ht := digs_top hD
  rw [← hL] at ht
  have h1 : c / D * D ≤ c := Nat.div_mul_le_self c D
  have h2 : D / 65536 ^ L * 65536 ^ L ≤ D := Nat.div_mul_le_self D _
  have h3 : c / D < 65536 := (Nat.div_lt_iff_lt_mul (by omega)).2 (by rw [Nat.mul_comm]; exact hc)
  refine ⟨?_, h3, ?_⟩
  · rw [Nat.le_div_iff_mul_le (Nat.pos_of_ne_zero ht.1), Nat.le_div_iff_mul_le hp, Nat.mul_assoc]
    exact Nat.le_trans (Nat.mul_le_mul_left _ h2) h1
  · have h4 := lt_digs_len D
    have h5 : 0 < (digs D).length := List.length_pos_iff.2 (digs_ne hD)
    have h6 : (digs D).length = L + 1 := by omega
    rw [h6, Nat.pow_succ] at h4
    rw [Nat.div_lt_iff_lt_mul (by omega), Nat.div_lt_iff_lt_mul hp]
    have : 65536 * 65536 * 65536 ^ L = 65536 ^ L * 65536 * 65536 := by
      rw [Nat.mul_comm (65536 * 65536), Nat.mul_assoc]
    omega
theorem scale_eq {a b s : Nat} (hs : 0 < s) : a * s / (b * s) = a / b ∧ a * s % (b * s) / s = a % b := by
  refine ⟨Nat.mul_div_mul_right a b hs, ?_⟩
  rw [Nat.mul_mod_mul_right, Nat.mul_div_cancel _ hs]
end Go.Proofs.YtlbihmicbncdiaaAm
