/-
  What the functions on fractions compute, in plain words: powers.
-/
import Derived.Test.YtgabephijgjogaaR
namespace Go.Proofs.YtgabephijgjogaaAm
open Go
set_option linter.unusedVariables false
set_option linter.unusedSimpArgs false

theorem len_lt_cap0 {n : Nat} (h : (digs n).length ≤ 2900) : n < cap0 := by
  rw [cap0_eq]; exact digs_lt_pow (by rw [capE0_eq]; exact h)
theorem pow_mono {a i e : Nat} (h : i ≤ e) (ha : a ^ i ≠ 0) : a ^ i ≤ a ^ e ∨ i = 0 := by
  by_cases hi : i = 0
  · exact Or.inr hi
  · left
    have : a ≠ 0 := by intro e0; subst e0; exact ha (Nat.zero_pow (by omega))
    exact Nat.pow_le_pow_right (by omega) h
theorem pow_len {a i e : Nat} (h : i ≤ e) (hi : (digs (a ^ i)).length > 256) : (digs (a ^ i)).length ≤ (digs (a ^ e)).length := by
  have h0 : a ^ i ≠ 0 := by intro e0; rw [e0, digs_zero] at hi; simp at hi
  rcases pow_mono h h0 with h1 | h1
  · exact digs_len_mono h1
  · subst h1; rw [Nat.pow_zero, digs1] at hi; simp at hi
theorem impl_natPow_loop {α : Type} (N a e : Nat) (ha : a < 65536 ^ 256) (he : e ≤ 64) (hN : cap < N) (k : List Int → Option α) : ∀ (d i n : Nat), i + d = e → d < n → (digs (a ^ i)).length ≤ 1024 →
    ∃ x, impl_natPow_L0 N n (digs a) (digs (a ^ i)) (e : Int) (i : Int) k = k (digs x) ∧ ((digs (a ^ e)).length ≤ 256 → x = a ^ e) ∧ (¬ (digs (a ^ e)).length ≤ 256 → ¬ (digs x).length ≤ 256) := by
  intro d
  induction d with
  | zero =>
    intro i n h hn hl
    obtain ⟨m, rfl⟩ : ∃ m, n = m + 1 := ⟨n - 1, by omega⟩
    have hi : i = e := by omega
    subst hi
    refine ⟨a ^ i, ?_, fun _ => rfl, fun h => h⟩
    rw [impl_natPow_L0.succ]
    unfold impl_natPow_L0r
    simp only [cast_nlt (show ¬ i < i by omega), cond_false]
  | succ d ih =>
    intro i n h hn hl
    obtain ⟨m, rfl⟩ : ∃ m, n = m + 1 := ⟨n - 1, by omega⟩
    have hp := cap0_lt (len_lt_cap0 (show (digs (a ^ i)).length ≤ 2900 by omega))
    rw [impl_natPow_L0.succ]
    unfold impl_natPow_L0r
    simp only [cast_lt (show i < e by omega), cond_true, impl_natMul_eq N _ _ _ hp (cap0_lt (c256 ha)) hN, ← Nat.pow_succ, succ_i (show i < 4611686018427387904 by omega)]
    by_cases hc : (digs (a ^ (i + 1))).length ≤ 1024
    · have c1 : ¬ ((1024 : Int) < ((digs (a ^ (i + 1))).length : Int)) := by omega
      simp only [c1, decide_false, cond_false]
      exact ih (i + 1) m (by omega) (by omega) hc
    · have c1 : ((1024 : Int) < ((digs (a ^ (i + 1))).length : Int)) := by omega
      have := pow_len (show i + 1 ≤ e by omega) (show (digs (a ^ (i + 1))).length > 256 by omega)
      simp only [c1, decide_true, cond_true]
      exact ⟨a ^ (i + 1), rfl, fun h => by omega, fun _ => by omega⟩
theorem impl_natPow_eq {α : Type} (N a e : Nat) (ha : a < 65536 ^ 256) (he : e ≤ 64) (hN : cap < N) (k : List Int → Option α) : ∃ x, impl_natPow N (digs a) (e : Int) k = k (digs x) ∧ ((digs (a ^ e)).length ≤ 256 → x = a ^ e) ∧ (¬ (digs (a ^ e)).length ≤ 256 → ¬ (digs x).length ≤ 256) := by
  have hN' := cap_N hN
  rw [impl_natPow.eq]
  unfold impl_natPow.b
  have h1 : (digs (a ^ 0)).length ≤ 1024 := by rw [Nat.pow_zero, digs1]; simp
  have := impl_natPow_loop N a e ha he hN (fun x => k x) e 0 N (by omega) (by omega) h1
  rw [Nat.pow_zero, digs1, show ((0 : Nat) : Int) = 0 from rfl] at this
  exact this
end Go.Proofs.YtgabephijgjogaaAm
