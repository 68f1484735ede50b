/-
  Narrowing behind a power: what both texts reckon; the law.
-/
import Derived.Test.YtlbihmicbncdiaaDoorCd
namespace Go.Proofs.YtlbihmicbncdiaaDoorAm
open Go
set_option linter.unusedVariables false
set_option linter.unusedSimpArgs false

theorem nbits_one : nbits 1 = 1 := by
  obtain ⟨k, e, l1, l2⟩ := nbits_ge (a := 1) (by omega)
  have : k = 0 := by
    cases k with
    | zero => rfl
    | succ k =>
      have : 2 ^ 1 ≤ 2 ^ (k + 1) := Nat.pow_le_pow_right (by omega) (by omega)
      omega
  rw [e, this]
def oneW (w : Int) : Int := greatB w * (2 ^ fracB w : Nat)
theorem trunc_one {w : Int} (hw : w = 32 ∨ w = 64) : (trunc w 1 1).1 = oneW w := by
  obtain ⟨g1, g2, g3, g4, g5⟩ := frac_great w
  have hG : 127 ≤ greatB w ∧ greatB w ≤ 1023 := by unfold greatB; split <;> omega
  have hF : (fracB w : Int) + 1 ≤ -leastB w := by rcases hw with rfl | rfl <;> decide
  have hs : scale0 w 1 1 = ((fracB w + 1 : Nat) : Int) := by
    unfold scale0; rw [nbits_one]; omega
  have hq : qS 1 1 ((fracB w + 1 : Nat) : Int) = 2 ^ (fracB w + 1) := by
    unfold qS
    rw [if_pos (by omega), Int.toNat_natCast, Nat.one_mul, Nat.div_one]
  have hp0 : 0 < 2 ^ fracB w := Nat.pow_pos (by omega)
  unfold trunc
  rw [if_neg (by omega), hs, hq, if_pos (Nat.le_refl _)]
  have e1 : 2 ^ (fracB w + 1) / 2 = 2 ^ fracB w := by rw [Nat.pow_succ]; omega
  rw [e1]
  unfold truncE
  rw [if_pos (Nat.le_refl _), if_neg (by omega)]
  unfold oneW
  have e2 : 1 - ((fracB w + 1 : Nat) : Int) - leastB w + 1 = greatB w := by omega
  rw [e2]
  omega
end Go.Proofs.YtlbihmicbncdiaaDoorAm
