/-
  What the functions on fractions compute, in plain words.
-/
import Derived.Test.YthjjaddhcdekjaaR
namespace Go.Proofs.YthjjaddhcdekjaaAm
open Go
set_option linter.unusedVariables false
set_option linter.unusedSimpArgs false

abbrev R4 := Bool × Bool × List Int × List Int
def bad4 : R4 := (false, false, [], [])
def fracSign (f : FracD) : Int := if fracOkB f then (if f.2.1.length = 0 then 0 else if f.1 then -1 else 1) else 0
theorem okB_sign {f : FracD} (h : fracOkB f = true) : f.2.1.length = 0 → f.1 = false := by
  obtain ⟨s, a, b, rfl, ha, hb, hb0, hg, hs⟩ := fracOkB_ex h
  intro e
  cases s
  · rfl
  · exact absurd (digs_len_zero.1 e) (hs rfl)
def givenF (f : FracD) : R4 := if f.2.1.length ≤ 256 ∧ f.2.2.1.length ≤ 256 then (f.1, true, f.2.1, f.2.2.1) else bad4
theorem givenF_len (f : FracD) : (givenF f).2.2.1.length ≤ 256 ∧ (givenF f).2.2.2.length ≤ 256 := by
  unfold givenF
  split
  next h => exact h
  next h => exact ⟨Nat.zero_le _, Nat.zero_le _⟩
theorem impl_given_eq {α : Type} (N : Nat) (f : FracD) (k : Bool → Bool → List Int → List Int → Option α) : impl_given N f k = k (givenF f).1 (givenF f).2.1 (givenF f).2.2.1 (givenF f).2.2.2 := by
  have hc : ∀ (l : List Int) (k1 : List Int → Option α), l.length ≤ 256 → impl_clone_int N l k1 = k1 l := by
    intro l k1 hl
    rw [impl_clone_int.eq]
    unfold impl_clone_int.b slices_Clone_int_int
    have h1 : ([] : List Int).length + l.length ≤ 8796093022208 := by simp; omega
    simp only [decide_eq_true h1, cond_true]
    rw [slices_Clip_int_int.eq]
    unfold slices_Clip_int_int.b
    simp
  rw [impl_given.eq]
  unfold impl_given.b givenF bad4
  by_cases h1 : f.2.1.length ≤ 256
  · have c1 : ¬ ((256 : Int) < (f.2.1.length : Int)) := by omega
    by_cases h2 : f.2.2.1.length ≤ 256
    · have c2 : ¬ ((256 : Int) < (f.2.2.1.length : Int)) := by omega
      simp only [c1, c2, decide_false, cond_false, hc _ _ h1, hc _ _ h2, h1, h2, and_self, if_true]
    · have c2 : ((256 : Int) < (f.2.2.1.length : Int)) := by omega
      simp [c1, c2, h1, h2]
  · have c1 : ((256 : Int) < (f.2.1.length : Int)) := by omega
    simp [c1, h1]
def mkF (s : Bool) (a b : Nat) : R4 :=
  if (digs (a / Nat.gcd a b)).length ≤ 256 ∧ (digs (b / Nat.gcd a b)).length ≤ 256 then (s && decide (a ≠ 0), true, digs (a / Nat.gcd a b), digs (b / Nat.gcd a b)) else bad4
theorem mkF_len (s : Bool) (a b : Nat) : (mkF s a b).2.2.1.length ≤ 256 ∧ (mkF s a b).2.2.2.length ≤ 256 := by
  unfold mkF
  split
  next h => exact h
  next h => exact ⟨Nat.zero_le _, Nat.zero_le _⟩
theorem given_lowest (s : Bool) (a b : Nat) : givenF (s && decide (a ≠ 0), (digs (a / Nat.gcd a b), (digs (b / Nat.gcd a b), ()))) = mkF s a b := rfl
end Go.Proofs.YthjjaddhcdekjaaAm
