/-
  What the laws' own functions on naturals and fractions compute, and which naturals and fractions are good.
-/
import Derived.Test.YtlbihmicbncdiaaQ
namespace Go.Proofs.YtlbihmicbncdiaaAm
open Go
set_option linter.unusedVariables false
set_option linter.unusedSimpArgs false

abbrev FracD := Bool × (List Int) × (List Int) × Unit
def markI : Int → List Int → List Int
  | _, [] => []
  | c, _ :: r => c :: markI (c + 1) r
theorem markI_len : ∀ (c : Int) (l : List Int), (markI c l).length = l.length
  | _, [] => rfl
  | c, _ :: r => by simp [markI, markI_len]
def fracOkB (f : FracD) : Bool := natOkB f.2.1 && natOkB f.2.2.1 && decide (f.2.2.1.length ≠ 0) && (!f.1 || decide (f.2.1.length ≠ 0)) && decide (Nat.gcd (val f.2.1).toNat (val f.2.2.1).toNat = 1)
theorem fracOkB_ex {f : FracD} (h : fracOkB f = true) : ∃ s a b, f = (s, (digs a, (digs b, ()))) ∧ a < 65536 ^ 256 ∧ b < 65536 ^ 256 ∧ b ≠ 0 ∧ Nat.gcd a b = 1 ∧ (s = true → a ≠ 0) := by
  obtain ⟨s, n, d, u⟩ := f
  simp only [fracOkB, Bool.and_eq_true, decide_eq_true_eq, Bool.or_eq_true] at h
  obtain ⟨⟨⟨⟨h1, h2⟩, h3⟩, h4⟩, h5⟩ := h
  obtain ⟨a, ha, rfl⟩ := natOkB_ex h1
  obtain ⟨b, hb, rfl⟩ := natOkB_ex h2
  rw [val_digs, val_digs] at h5
  refine ⟨s, a, b, rfl, ha, hb, fun e => h3 (digs_len_zero.2 e), by simpa using h5, fun hs e => ?_⟩
  rcases h4 with h4 | h4
  · rw [hs] at h4; simp at h4
  · exact h4 (digs_len_zero.2 e)
theorem len_cast_zero (a : Nat) : decide (((digs a).length : Int) = 0) = decide (a = 0) := by
  by_cases h : a = 0
  · subst h; simp [digs_zero]
  · have h2 : (digs a).length ≠ 0 := fun e => h (digs_len_zero.1 e)
    have : ¬ (((digs a).length : Int) = 0) := by omega
    simp only [h, this, decide_false]
theorem len_cast_pos (a : Nat) : decide ((0 : Int) < ((digs a).length : Int)) = decide (a ≠ 0) := by
  by_cases h : a = 0
  · subst h; simp [digs_zero]
  · have h2 : (digs a).length ≠ 0 := fun e => h (digs_len_zero.1 e)
    have : (0 : Int) < ((digs a).length : Int) := by omega
    simp only [h, this, Ne, not_false_eq_true, decide_true]
theorem c256 {a : Nat} (h : a < 65536 ^ 256) : a < cap0 := lt_cap0 h (by omega)
theorem cap0_lt {a : Nat} (h : a < cap0) : a < cap := by have := cap0_step; omega
theorem digs1 : digs 1 = [(1 : Int)] := digs_one (by omega) (by omega)
end Go.Proofs.YtlbihmicbncdiaaAm
