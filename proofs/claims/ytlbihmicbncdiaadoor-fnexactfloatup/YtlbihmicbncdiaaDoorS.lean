/-
  What the functions on fractions compute, in plain words.
-/
import Derived.Test.YtlbihmicbncdiaaDoorR
namespace Go.Proofs.YtlbihmicbncdiaaDoorAm
open Go
set_option linter.unusedVariables false
set_option linter.unusedSimpArgs false

abbrev R4 := Bool × Bool × List Int × List Int
def bad4 : R4 := (false, false, [], [])
def fracSign (f : FracD) : Int := if fracOkB f then (if f.2.1.length = 0 then 0 else if f.1 then -1 else 1) else 0
theorem okB_sign {f : FracD} (h : fracOkB f = true) : f.2.1.length = 0 → f.1 = false := by
  obtain ⟨s, a, b, rfl, ha, hb, hb0, hg, hs⟩ := fracOkB_ex h
  intro e
  cases s
  · rfl
  · exact absurd (digs_len_zero.1 e) (hs rfl)
def signF (f : FracD) : Int := if f.1 then -1 else if f.2.1.length = 0 then 0 else 1
def givenF (f : FracD) : R4 := if f.2.1.length ≤ 256 ∧ f.2.2.1.length ≤ 256 then (f.1, true, f.2.1, f.2.2.1) else bad4
theorem givenF_len (f : FracD) : (givenF f).2.2.1.length ≤ 256 ∧ (givenF f).2.2.2.length ≤ 256 := by
  unfold givenF
  split
  next h => exact h
  next h => exact ⟨Nat.zero_le _, Nat.zero_le _⟩
def mkF (s : Bool) (a b : Nat) : R4 :=
  if (digs (a / Nat.gcd a b)).length ≤ 256 ∧ (digs (b / Nat.gcd a b)).length ≤ 256 then (s && decide (a ≠ 0), true, digs (a / Nat.gcd a b), digs (b / Nat.gcd a b)) else bad4
theorem mkF_len (s : Bool) (a b : Nat) : (mkF s a b).2.2.1.length ≤ 256 ∧ (mkF s a b).2.2.2.length ≤ 256 := by
  unfold mkF
  split
  next h => exact h
  next h => exact ⟨Nat.zero_le _, Nat.zero_le _⟩
theorem given_lowest (s : Bool) (a b : Nat) : givenF (s && decide (a ≠ 0), (digs (a / Nat.gcd a b), (digs (b / Nat.gcd a b), ()))) = mkF s a b := rfl
end Go.Proofs.YtlbihmicbncdiaaDoorAm
