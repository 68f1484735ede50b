/-
  What the functions on fractions compute, in plain words: powers.
-/
import Derived.Test.YthjjaddhcdekjaaU
namespace Go.Proofs.YthjjaddhcdekjaaAm
open Go
set_option linter.unusedVariables false
set_option linter.unusedSimpArgs false

theorem len_lt_cap0 {n : Nat} (h : (digs n).length ≤ 2900) : n < cap0 := by
  rw [cap0_eq]; exact digs_lt_pow (by rw [capE0_eq]; exact h)
theorem pow_mono {a i e : Nat} (h : i ≤ e) (ha : a ^ i ≠ 0) : a ^ i ≤ a ^ e ∨ i = 0 := by
  by_cases hi : i = 0
  · exact Or.inr hi
  · left
    have : a ≠ 0 := by intro e0; subst e0; exact ha (Nat.zero_pow (by omega))
    exact Nat.pow_le_pow_right (by omega) h
theorem pow_len {a i e : Nat} (h : i ≤ e) (hi : (digs (a ^ i)).length > 256) : (digs (a ^ i)).length ≤ (digs (a ^ e)).length := by
  have h0 : a ^ i ≠ 0 := by intro e0; rw [e0, digs_zero] at hi; simp at hi
  rcases pow_mono h h0 with h1 | h1
  · exact digs_len_mono h1
  · subst h1; rw [Nat.pow_zero, digs1] at hi; simp at hi
def natPow (a e : Nat) : Bool × List Int := if (digs (a ^ e)).length ≤ 256 then (true, digs (a ^ e)) else (false, [])
theorem spec_NatPow_loop {α : Type} (N a e : Nat) (ha : a < 65536 ^ 256) (he : e ≤ 64) (hN : cap < N) (k : Bool → List Int → Option α) (k1 : List Int → Option α) : ∀ (d i n : Nat), i + d = e → d < n → (digs (a ^ i)).length ≤ 256 →
    spec_NatPow_L0 N n (digs a) (e : Int) (i : Int) (digs (a ^ i)) k k1 = if (digs (a ^ e)).length ≤ 256 then k1 (digs (a ^ e)) else k false [] := by
  intro d
  induction d with
  | zero =>
    intro i n h hn hl
    obtain ⟨m, rfl⟩ : ∃ m, n = m + 1 := ⟨n - 1, by omega⟩
    have hi : i = e := by omega
    subst hi
    rw [spec_NatPow_L0.succ]
    unfold spec_NatPow_L0r
    simp only [cast_nlt (show ¬ i < i by omega), cond_false, hl, if_true]
  | succ d ih =>
    intro i n h hn hl
    obtain ⟨m, rfl⟩ : ∃ m, n = m + 1 := ⟨n - 1, by omega⟩
    have hp := cap0_lt (len_lt_cap0 (show (digs (a ^ i)).length ≤ 2900 by omega))
    rw [spec_NatPow_L0.succ]
    unfold spec_NatPow_L0r
    simp only [cast_lt (show i < e by omega), cond_true, spec_l5Mul_eq N _ _ _ hp (cap0_lt (c256 ha)) hN, ← Nat.pow_succ, succ_i (show i < 4611686018427387904 by omega)]
    by_cases hc : (digs (a ^ (i + 1))).length ≤ 256
    · have c1 : ¬ ((256 : Int) < ((digs (a ^ (i + 1))).length : Int)) := by omega
      simp only [c1, decide_false, cond_false]
      exact ih (i + 1) m (by omega) (by omega) hc
    · have c1 : ((256 : Int) < ((digs (a ^ (i + 1))).length : Int)) := by omega
      have := pow_len (show i + 1 ≤ e by omega) (show (digs (a ^ (i + 1))).length > 256 by omega)
      simp only [c1, decide_true, cond_true]
      rw [if_neg (by omega)]
theorem spec_NatPow_eq {α : Type} (N a e : Nat) (ha : a < 65536 ^ 256) (he : e ≤ 64) (hN : cap < N) (k : Bool → List Int → Option α) : spec_NatPow N (digs a) (e : Int) k = k (natPow a e).1 (natPow a e).2 := by
  have hN' := cap_N hN
  rw [spec_NatPow.eq]
  unfold spec_NatPow.b natPow
  have c1 : ¬ ((64 : Int) < (e : Int)) := by omega
  have h1 : (digs (a ^ 0)).length ≤ 256 := by rw [Nat.pow_zero, digs1]; simp
  have := spec_NatPow_loop N a e ha he hN (fun x2017 x2018 => k x2017 x2018) (fun x2019 => k true x2019) e 0 N (by omega) (by omega) h1
  rw [Nat.pow_zero, digs1, show ((0 : Nat) : Int) = 0 from rfl] at this
  simp only [spec_NatOk_eq N _ _ hN, natOkB_digs ha, Bool.not_true, cond_false, cast_neg, c1, decide_false]
  rw [this]
  split <;> rfl
theorem impl_natPow_loop {α : Type} (N a e : Nat) (ha : a < 65536 ^ 256) (he : e ≤ 64) (hN : cap < N) (k : List Int → Option α) : ∀ (d i n : Nat), i + d = e → d < n → (digs (a ^ i)).length ≤ 1024 →
    ∃ x, impl_natPow_L0 N n (digs a) (digs (a ^ i)) (e : Int) (i : Int) k = k (digs x) ∧ ((digs (a ^ e)).length ≤ 256 → x = a ^ e) ∧ (¬ (digs (a ^ e)).length ≤ 256 → ¬ (digs x).length ≤ 256) := by
  intro d
  induction d with
  | zero =>
    intro i n h hn hl
    obtain ⟨m, rfl⟩ : ∃ m, n = m + 1 := ⟨n - 1, by omega⟩
    have hi : i = e := by omega
    subst hi
    refine ⟨a ^ i, ?_, fun _ => rfl, fun h => h⟩
    rw [impl_natPow_L0.succ]
    unfold impl_natPow_L0r
    simp only [cast_nlt (show ¬ i < i by omega), cond_false]
  | succ d ih =>
    intro i n h hn hl
    obtain ⟨m, rfl⟩ : ∃ m, n = m + 1 := ⟨n - 1, by omega⟩
    have hp := cap0_lt (len_lt_cap0 (show (digs (a ^ i)).length ≤ 2900 by omega))
    rw [impl_natPow_L0.succ]
    unfold impl_natPow_L0r
    simp only [cast_lt (show i < e by omega), cond_true, impl_natMul_eq N _ _ _ hp (cap0_lt (c256 ha)) hN, ← Nat.pow_succ, succ_i (show i < 4611686018427387904 by omega)]
    by_cases hc : (digs (a ^ (i + 1))).length ≤ 1024
    · have c1 : ¬ ((1024 : Int) < ((digs (a ^ (i + 1))).length : Int)) := by omega
      simp only [c1, decide_false, cond_false]
      exact ih (i + 1) m (by omega) (by omega) hc
    · have c1 : ((1024 : Int) < ((digs (a ^ (i + 1))).length : Int)) := by omega
      have := pow_len (show i + 1 ≤ e by omega) (show (digs (a ^ (i + 1))).length > 256 by omega)
      simp only [c1, decide_true, cond_true]
      exact ⟨a ^ (i + 1), rfl, fun h => by omega, fun _ => by omega⟩
theorem impl_natPow_eq {α : Type} (N a e : Nat) (ha : a < 65536 ^ 256) (he : e ≤ 64) (hN : cap < N) (k : List Int → Option α) : ∃ x, impl_natPow N (digs a) (e : Int) k = k (digs x) ∧ ((digs (a ^ e)).length ≤ 256 → x = a ^ e) ∧ (¬ (digs (a ^ e)).length ≤ 256 → ¬ (digs x).length ≤ 256) := by
  have hN' := cap_N hN
  rw [impl_natPow.eq]
  unfold impl_natPow.b
  have h1 : (digs (a ^ 0)).length ≤ 1024 := by rw [Nat.pow_zero, digs1]; simp
  have := impl_natPow_loop N a e ha he hN (fun x => k x) e 0 N (by omega) (by omega) h1
  rw [Nat.pow_zero, digs1, show ((0 : Nat) : Int) = 0 from rfl] at this
  exact this
def fracPow (f : FracD) (e : Int) : R4 :=
  if fracOkB f = true ∧ 0 ≤ e ∧ e ≤ 64 ∧ (natPow (val f.2.1).toNat e.toNat).1 = true ∧ (natPow (val f.2.2.1).toNat e.toNat).1 = true then
    (f.1 && decide (Int.tmod e 2 = 1), true, (natPow (val f.2.1).toNat e.toNat).2, (natPow (val f.2.2.1).toNat e.toNat).2) else bad4
theorem natPow_len (a e : Nat) : (natPow a e).2.length ≤ 256 := by
  unfold natPow
  split
  next h => exact h
  next h => exact Nat.zero_le _
theorem fracPow_len (f : FracD) (e : Int) : (fracPow f e).2.2.1.length ≤ 256 ∧ (fracPow f e).2.2.2.length ≤ 256 := by
  unfold fracPow
  split
  · exact ⟨natPow_len _ _, natPow_len _ _⟩
  · exact ⟨Nat.zero_le _, Nat.zero_le _⟩
theorem spec_FracPow_eq {α : Type} (N : Nat) (f : FracD) (e : Int) (k : Bool → Bool → List Int → List Int → Option α) (hN : cap < N) : spec_FracPow N f e k = k (fracPow f e).1 (fracPow f e).2.1 (fracPow f e).2.2.1 (fracPow f e).2.2.2 := by
  rw [spec_FracPow.eq]
  unfold spec_FracPow.b fracPow
  rw [spec_FracOk_eq N _ _ hN]
  cases h : fracOkB f
  · simp [bad4]
  obtain ⟨s, a, b, rfl, ha, hb, hb0, hg, hs⟩ := fracOkB_ex h
  by_cases h1 : e < 0
  · have : ¬ 0 ≤ e := by omega
    simp [h1, this, bad4]
  by_cases h2 : 64 < e
  · have : ¬ e ≤ 64 := by omega
    simp [h1, h2, this, bad4]
  obtain ⟨n, rfl⟩ : ∃ n : Nat, e = n := ⟨e.toNat, by omega⟩
  have hn : n ≤ 64 := by omega
  have h3 : (n : Int) ≤ 64 := by omega
  simp only [Bool.not_true, cond_false, h1, h2, decide_false, spec_NatPow_eq N a n ha hn hN, spec_NatPow_eq N b n hb hn hN, val_digs, Int.toNat_natCast, Int.natCast_nonneg, h3, true_and]
  cases (natPow a n).1
  · simp [bad4]
  cases (natPow b n).1
  · simp [bad4]
  cases s <;> simp
theorem impl_FracPow_eq {α : Type} (N : Nat) (f : FracD) (e : Int) (k : Bool → Bool → List Int → List Int → Option α) (hN : cap < N) : impl_FracPow N f e k = k (fracPow f e).1 (fracPow f e).2.1 (fracPow f e).2.2.1 (fracPow f e).2.2.2 := by
  rw [impl_FracPow.eq]
  unfold impl_FracPow.b fracPow
  rw [impl_FracOk_eq N _ _ hN]
  cases h : fracOkB f
  · simp [bad4]
  obtain ⟨s, a, b, rfl, ha, hb, hb0, hg, hs⟩ := fracOkB_ex h
  simp only [impl_in_eq]
  by_cases h1 : ¬ 0 ≤ e
  · simp [h1, bad4]
  have h1 : 0 ≤ e := Decidable.not_not.1 h1
  by_cases h2 : ¬ e ≤ 64
  · simp [h1, h2, bad4]
  have h2 : e ≤ 64 := Decidable.not_not.1 h2
  obtain ⟨n, rfl⟩ : ∃ n : Nat, e = n := ⟨e.toNat, by omega⟩
  have hn : n ≤ 64 := by omega
  simp only [Bool.not_true, cond_false, h1, h2, decide_true, Bool.and_self, val_digs, Int.toNat_natCast, true_and, if_true, impl_Frac_pow.eq, natPow]
  unfold impl_Frac_pow.b
  cases s
  · simp only [cond_false]
    obtain ⟨x, e1, e2, e3⟩ := impl_natPow_eq (α := α) N a n ha hn hN (fun x2072 => impl_natPow N (digs b) (n : Int) (fun x2073 => impl_given N (false, (x2072, (x2073, ()))) (fun x2075 x2076 x2077 x2078 => k x2075 x2076 x2077 x2078)))
    rw [e1]
    obtain ⟨y, f1, f2, f3⟩ := impl_natPow_eq (α := α) N b n hb hn hN (fun x2073 => impl_given N (false, (digs x, (x2073, ()))) (fun x2075 x2076 x2077 x2078 => k x2075 x2076 x2077 x2078))
    rw [f1, impl_given_eq]
    unfold givenF
    by_cases g1 : (digs (a ^ n)).length ≤ 256
    · have := e2 g1; subst this
      by_cases g2 : (digs (b ^ n)).length ≤ 256
      · have := f2 g2; subst this
        simp [g1, g2]
      · have := f3 g2
        simp [g1, g2, this, bad4]
    · have := e3 g1
      simp [g1, this, bad4]
  · simp only [cond_true]
    obtain ⟨x, e1, e2, e3⟩ := impl_natPow_eq (α := α) N a n ha hn hN (fun x2070 => impl_natPow N (digs b) (n : Int) (fun x2071 => impl_given N (decide (Int.tmod (n : Int) 2 = 1), (x2070, (x2071, ()))) (fun x2075 x2076 x2077 x2078 => k x2075 x2076 x2077 x2078)))
    rw [e1]
    obtain ⟨y, f1, f2, f3⟩ := impl_natPow_eq (α := α) N b n hb hn hN (fun x2071 => impl_given N (decide (Int.tmod (n : Int) 2 = 1), (digs x, (x2071, ()))) (fun x2075 x2076 x2077 x2078 => k x2075 x2076 x2077 x2078))
    rw [f1, impl_given_eq]
    unfold givenF
    by_cases g1 : (digs (a ^ n)).length ≤ 256
    · have := e2 g1; subst this
      by_cases g2 : (digs (b ^ n)).length ≤ 256
      · have := f2 g2; subst this
        simp [g1, g2]
      · have := f3 g2
        simp [g1, g2, this, bad4]
    · have := e3 g1
      simp [g1, this, bad4]
theorem pure_FnExactFracPow (x0 : FracD) (x1 : Int) (z0 : wfD (.pair .bool (.pair (.sl (.int .i64)) (.pair (.sl (.int .i64)) .unit))) x0) (z1 : wfD (.int .i64) x1) : ∃ N, laws_FnExactFracPow N x0 x1 some = some true := by
  refine ⟨cap + 1, ?_⟩
  have hN : cap < cap + 1 := by omega
  have hl1 : x0.2.1.length ≤ maxLen := z0.2.1.1
  have hl2 : x0.2.2.1.length ≤ maxLen := z0.2.2.1.1
  generalize cap + 1 = N at *
  rw [laws_FnExactFracPow.eq]
  unfold laws_FnExactFracPow.b
  have sz := fun k => laws_szFrac_eq (α := Bool) N x0 1048576 k hl1 hl2 (by omega)
  rw [show ((1048576 : Nat) : Int) = 1048576 from rfl] at sz
  rw [sz]
  by_cases h : x0.2.1.length + x0.2.2.1.length ≤ 1048576
  · obtain ⟨l1, l2⟩ := fracPow_len x0 x1
    simp only [h, if_true, cast_neg, cond_false, laws_toFrac_eq N x0 _ h hN, spec_FracPow_eq N _ _ _ hN, impl_FracPow_eq N _ _ _ hN]
    generalize fracPow (x0.1, (x0.2.1, (x0.2.2.1, ()))) x1 = r at *
    have l3 : r.2.2.1.length + r.2.2.2.length ≤ 1048576 := by omega
    have q1 : ¬ (1 + (x0.2.1.length : Int) + (x0.2.2.1.length : Int) < 0) := by omega
    have q2 : ¬ (1 + (r.2.2.1.length : Int) + (r.2.2.2.length : Int) < 0) := by omega
    simp only [laws_eqFrac_eq N _ _ _ _ l3 hN, laws_eqFrac_eq N _ _ _ _ h hN, q1, q2, laws_markFrac_eq N _ _ _ _ l3 hN, laws_markFrac_eq N _ _ _ _ h hN, laws_heldFrac_eq N _ _ _ _ l3 hN, beq_self_eq_true, decide_true, decide_false, Bool.not_true, cond_false]
  · simp [h]
end Go.Proofs.YthjjaddhcdekjaaAm
