/-
  What the functions on fractions compute, in plain words.
-/
import Derived.Test.YthjjaddhcdekjaaR
namespace Go.Proofs.YthjjaddhcdekjaaAm
open Go
set_option linter.unusedVariables false
set_option linter.unusedSimpArgs false

abbrev R4 := Bool × Bool × List Int × List Int
def bad4 : R4 := (false, false, [], [])
def fracSign (f : FracD) : Int := if fracOkB f then (if f.2.1.length = 0 then 0 else if f.1 then -1 else 1) else 0
theorem okB_sign {f : FracD} (h : fracOkB f = true) : f.2.1.length = 0 → f.1 = false := by
  obtain ⟨s, a, b, rfl, ha, hb, hb0, hg, hs⟩ := fracOkB_ex h
  intro e
  cases s
  · rfl
  · exact absurd (digs_len_zero.1 e) (hs rfl)
theorem spec_FracSign_eq {α : Type} (N : Nat) (f : FracD) (k : Int → Option α) (hN : cap < N) : spec_FracSign N f k = k (fracSign f) := by
  rw [spec_FracSign.eq]
  unfold spec_FracSign.b fracSign
  rw [spec_FracOk_eq N _ _ hN]
  cases h : fracOkB f
  · simp
  · by_cases h2 : f.2.1.length = 0
    · simp [h2]
    · have h3 : ¬ ((f.2.1.length : Int) = 0) := by omega
      simp only [Bool.not_true, cond_false, h2, h3, decide_false, if_false, if_true]
      cases f.1 <;> simp
def signF (f : FracD) : Int := if f.1 then -1 else if f.2.1.length = 0 then 0 else 1
theorem impl_Frac_sign_eq {α : Type} (N : Nat) (f : FracD) (k : Int → Option α) : impl_Frac_sign N f k = k (signF f) := by
  rw [impl_Frac_sign.eq]
  unfold impl_Frac_sign.b signF
  cases f.1
  · by_cases h2 : f.2.1.length = 0
    · simp [h2]
    · have h3 : ¬ ((f.2.1.length : Int) = 0) := by omega
      simp only [cond_false, h2, h3, decide_false, if_false, Bool.false_eq_true]
  · simp
theorem impl_FracSign_eq {α : Type} (N : Nat) (f : FracD) (k : Int → Option α) (hN : cap < N) : impl_FracSign N f k = k (fracSign f) := by
  rw [impl_FracSign.eq]
  unfold impl_FracSign.b fracSign
  rw [impl_FracOk_eq N _ _ hN]
  cases h : fracOkB f
  · simp
  · simp only [Bool.not_true, cond_false, impl_Frac_sign_eq, signF, if_true]
    have := okB_sign h
    by_cases h2 : f.2.1.length = 0
    · simp [h2, this h2]
    · simp [h2]
theorem pure_FnExactFracSign (x0 : FracD) (z0 : wfD (.pair .bool (.pair (.sl (.int .i64)) (.pair (.sl (.int .i64)) .unit))) x0) : ∃ N, laws_FnExactFracSign N x0 some = some true := by
  refine ⟨cap + 1, ?_⟩
  have hN : cap < cap + 1 := by omega
  have hl1 : x0.2.1.length ≤ maxLen := z0.2.1.1
  have hl2 : x0.2.2.1.length ≤ maxLen := z0.2.2.1.1
  generalize cap + 1 = N at *
  rw [laws_FnExactFracSign.eq]
  unfold laws_FnExactFracSign.b
  have sz := fun k => laws_szFrac_eq (α := Bool) N x0 1048576 k hl1 hl2 (by omega)
  rw [show ((1048576 : Nat) : Int) = 1048576 from rfl] at sz
  rw [sz]
  by_cases h : x0.2.1.length + x0.2.2.1.length ≤ 1048576
  · simp only [h, if_true, cast_neg, cond_false, laws_toFrac_eq N x0 _ h hN, spec_FracSign_eq N _ _ hN, impl_FracSign_eq N _ _ hN, laws_eqFrac_eq N _ _ _ _ h hN, decide_true, Bool.not_true]
  · simp [h]
def mkF (s : Bool) (a b : Nat) : R4 :=
  if (digs (a / Nat.gcd a b)).length ≤ 256 ∧ (digs (b / Nat.gcd a b)).length ≤ 256 then (s && decide (a ≠ 0), true, digs (a / Nat.gcd a b), digs (b / Nat.gcd a b)) else bad4
theorem mkF_len (s : Bool) (a b : Nat) : (mkF s a b).2.2.1.length ≤ 256 ∧ (mkF s a b).2.2.2.length ≤ 256 := by
  unfold mkF
  split
  next h => exact h
  next h => exact ⟨Nat.zero_le _, Nat.zero_le _⟩
