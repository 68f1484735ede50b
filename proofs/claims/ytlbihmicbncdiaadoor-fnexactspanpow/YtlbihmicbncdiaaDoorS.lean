/-
  What the functions on fractions compute, in plain words.
-/
import Derived.Test.YtlbihmicbncdiaaDoorR
namespace Go.Proofs.YtlbihmicbncdiaaDoorAm
open Go
set_option linter.unusedVariables false
set_option linter.unusedSimpArgs false

theorem impl_lowest_eq {α : Type} (N : Nat) (s : Bool) (a b : Nat) (k : FracD → Option α) (ha : a < cap0) (hb : b < cap0) (hb0 : b ≠ 0) (hN : cap < N) :
    impl_lowest N s (digs a) (digs b) k = k (s && decide (a ≠ 0), (digs (a / Nat.gcd a b), (digs (b / Nat.gcd a b), ()))) := by
  rw [impl_lowest.eq]
  unfold impl_lowest.b
  have hg0 : Nat.gcd a b ≠ 0 := by
    have := Nat.gcd_pos_of_pos_right a (Nat.pos_of_ne_zero hb0); omega
  have hgb := Nat.gcd_le_right a (Nat.pos_of_ne_zero hb0)
  have hgc : Nat.gcd a b < cap0 := Nat.lt_of_le_of_lt hgb hb
  have hga : a ≠ 0 → a / Nat.gcd a b ≠ 0 := fun h => by
    have := Nat.div_pos (Nat.gcd_le_left b (Nat.pos_of_ne_zero h)) (Nat.pos_of_ne_zero hg0); omega
  have hga2 : decide (a / Nat.gcd a b ≠ 0) = decide (a ≠ 0) := by
    by_cases h : a = 0
    · subst h; simp
    · have := hga h; simp only [this, h, Ne, not_false_eq_true]
  have h1c : (1 : Nat) < cap := by have := cap_ge; omega
  have hj : ∀ k1 : Bool → List Int → List Int → Bool → List Int → List Int → Option α, impl_lowest_J2 N s (digs a) (digs b) (digs (Nat.gcd a b)) false [] [] k1 = k1 s (digs (a / Nat.gcd a b)) (digs (b / Nat.gcd a b)) false [] [] := by
    intro k1
    rw [impl_lowest_J2.eq]
    unfold impl_lowest_J2.b
    simp only [← digs1, impl_natCmp_eq N _ _ _ (cap0_lt hgc) h1c hN, cmpN_eq]
    by_cases h1 : Nat.gcd a b = 1
    · simp [h1]
    · simp only [h1, decide_false, Bool.not_false, cond_true, impl_natDiv_eq N _ _ _ ha hgc hg0 hN, impl_natDiv_eq N _ _ _ hb hgc hg0 hN]
  simp only [impl_natGcd_eq N a b _ ha hb hN, hj, len_cast_pos]
  cases s
  · simp
  · simp only [cond_true, hga2, Bool.true_and]
end Go.Proofs.YtlbihmicbncdiaaDoorAm
