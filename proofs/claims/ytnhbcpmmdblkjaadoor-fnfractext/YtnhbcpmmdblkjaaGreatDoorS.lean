/-
  What the functions on fractions compute, in plain words.
-/
import Derived.Test.YtnhbcpmmdblkjaaGreatDoorR
namespace Go.Proofs.YtnhbcpmmdblkjaaGreatDoorAm
open Go
set_option linter.unusedVariables false
set_option linter.unusedSimpArgs false

abbrev R4 := Bool × Bool × List Int × List Int
def bad4 : R4 := (false, false, [], [])
def mkF (s : Bool) (a b : Nat) : R4 :=
  if (digs (a / Nat.gcd a b)).length ≤ 256 ∧ (digs (b / Nat.gcd a b)).length ≤ 256 then (s && decide (a ≠ 0), true, digs (a / Nat.gcd a b), digs (b / Nat.gcd a b)) else bad4
theorem spec_l6Make_eq {α : Type} (N : Nat) (s : Bool) (a b : Nat) (k : Bool → Bool → List Int → List Int → Option α) (ha : a < cap0) (hb : b < cap0) (hb0 : b ≠ 0) (hN : cap < N) :
    spec_l6Make N s (digs a) (digs b) k = k (mkF s a b).1 (mkF s a b).2.1 (mkF s a b).2.2.1 (mkF s a b).2.2.2 := by
  rw [spec_l6Make.eq]
  unfold spec_l6Make.b mkF bad4
  by_cases h0 : a = 0
  · subst h0
    have h1 : b / b = 1 := Nat.div_self (by omega)
    simp [digs_zero, Nat.gcd_zero_left, h1, digs1]
  · have hg0 : Nat.gcd a b ≠ 0 := by
      have := Nat.gcd_pos_of_pos_right a (Nat.pos_of_ne_zero hb0); omega
    have hgb := Nat.gcd_le_right a (Nat.pos_of_ne_zero hb0)
    have hgc : Nat.gcd a b < cap0 := Nat.lt_of_le_of_lt hgb hb
    simp only [len_cast_zero, h0, decide_false, cond_false, spec_l5Gcd_eq N a b _ ha hb hN, spec_l5Div_eq N _ _ _ ha hgc hg0 hN, spec_l5Div_eq N _ _ _ hb hgc hg0 hN]
    generalize Nat.gcd a b = g at *
    by_cases h1 : (digs (a / g)).length ≤ 256
    · have c1 : ¬ ((256 : Int) < ((digs (a / g)).length : Int)) := by omega
      by_cases h2 : (digs (b / g)).length ≤ 256
      · have c2 : ¬ ((256 : Int) < ((digs (b / g)).length : Int)) := by omega
        simp [c1, c2, h1, h2, h0]
      · have c2 : ((256 : Int) < ((digs (b / g)).length : Int)) := by omega
        simp [c1, c2, h1, h2]
    · have c1 : ((256 : Int) < ((digs (a / g)).length : Int)) := by omega
      simp [c1, h1]
end Go.Proofs.YtnhbcpmmdblkjaaGreatDoorAm
