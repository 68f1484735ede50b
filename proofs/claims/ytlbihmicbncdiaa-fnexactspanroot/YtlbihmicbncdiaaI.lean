/-
  What the reference's functions on naturals compute, in plain words: sums, differences, quotients, divisors.
-/
import Derived.Test.YtlbihmicbncdiaaH
namespace Go.Proofs.YtlbihmicbncdiaaAm
open Go
set_option linter.unusedVariables false
set_option linter.unusedSimpArgs false

theorem ipow_cast (i : Nat) : (65536 : Int) ^ i = ((65536 ^ i : Nat) : Int) := (Int.natCast_pow _ _).symm
theorem sum_nrm {a b n : Nat} {l : List Int} (hl : Dig l) (hn : l.length = max (digs a).length (digs b).length) (hv : val l = a + b) : l = digs (a + b) := by
  refine digs_of (nrm_of_ge hl fun hne => ?_) (by rw [hv]; rfl)
  have hp := List.length_pos_iff.2 hne
  rw [hv, hn, ipow_cast]
  rcases Nat.le_total (digs a).length (digs b).length with h | h
  · rw [Nat.max_eq_right h]
    have : b ≠ 0 := by intro e; subst e; simp [digs_zero] at h; rw [hn, h] at hp; simp [digs_zero] at hp
    have := digs_len_ge this; omega
  · rw [Nat.max_eq_left h]
    have : a ≠ 0 := by intro e; subst e; simp [digs_zero] at h; rw [hn, h] at hp; simp [digs_zero] at hp
    have := digs_len_ge this; omega
end Go.Proofs.YtlbihmicbncdiaaAm
