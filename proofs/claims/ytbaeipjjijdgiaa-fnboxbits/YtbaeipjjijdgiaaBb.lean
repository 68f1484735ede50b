/-
  Floats by their order numbers: the parts of a float, the float of a number times a power of two, as both texts reckon them.
-/
import Derived.Test.YtbaeipjjijdgiaaBa
namespace Go.Proofs.YtbaeipjjijdgiaaAm
open Go
set_option linter.unusedVariables false
set_option linter.unusedSimpArgs false

theorem mkO_bound {w : Int} {o : Nat} {P m : Int} (hw : w = 32 ∨ w = 64) (ho : o < 2 ^ 64) (ho0 : o ≠ 0) (h : mkO w o P = some m) : -9223372036854775808 < m ∧ m ≤ 9223372036854775807 := by
  obtain ⟨g1, g2, g3, g4, g5⟩ := frac_great w
  have hG : 0 ≤ greatB w ∧ greatB w ≤ 1023 := by unfold greatB; split <;> omega
  obtain ⟨L, hL, l1, l2⟩ := blen_spec o ho ho0
  unfold mkO at h
  generalize fracB w = F at *
  generalize leastB w = A at *
  generalize greatB w = G at *
  have hpo := pow_le_52 g2
  split at h
  · simp at h
  · split at h
    · simp only [Option.some.injEq] at h
      obtain ⟨e, he⟩ : ∃ e : Nat, P + blen o - 1 + G = (e : Int) := ⟨(P + blen o - 1 + G).toNat, by omega⟩
      have hm : e * 2 ^ F ≤ 2046 * 4503599627370496 := Nat.mul_le_mul (by omega) hpo
      have hme : (e : Int) * ((2 ^ F : Nat) : Int) = ((e * 2 ^ F : Nat) : Int) := (Int.natCast_mul _ _).symm
      have b1 : o * 2 ^ (F + 1 - blen o) < 2 ^ (F + 1) := by
        have := (Nat.mul_lt_mul_right (a := 2 ^ (F + 1 - blen o)) (Nat.pow_pos (by omega))).2 l2
        rw [← Nat.pow_add, show L + 1 + (F + 1 - blen o) = F + 1 by omega] at this
        exact this
      rw [Nat.pow_succ] at b1
      rw [he, hme] at h
      omega
    · simp only [Option.some.injEq] at h
      have b1 : o * 2 ^ (P - A).toNat < 2 ^ F := by
        have := (Nat.mul_lt_mul_right (a := 2 ^ (P - A).toNat) (Nat.pow_pos (by omega))).2 l2
        rw [← Nat.pow_add] at this
        exact Nat.lt_of_lt_of_le this (Nat.pow_le_pow_right (by omega) (by omega))
      omega
end Go.Proofs.YtbaeipjjijdgiaaAm
