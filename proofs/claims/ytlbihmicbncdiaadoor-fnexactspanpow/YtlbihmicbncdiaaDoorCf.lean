/-
  Powers of spans; narrowing behind a square root; the laws.
-/
import Derived.Test.YtlbihmicbncdiaaDoorCe
namespace Go.Proofs.YtlbihmicbncdiaaDoorAm
open Go
set_option linter.unusedVariables false
set_option linter.unusedSimpArgs false

theorem nbits_of {a k : Nat} (h1 : 2 ^ k ≤ a) (h2 : a < 2 ^ (k + 1)) : nbits a = k + 1 := by
  have hp : 0 < 2 ^ k := Nat.pow_pos (by omega)
  obtain ⟨j, e, l1, l2⟩ := nbits_ge (a := a) (by omega)
  have i1 := pow_lt_of (Nat.lt_of_le_of_lt h1 l2)
  have i2 := pow_lt_of (Nat.lt_of_le_of_lt l1 h2)
  omega
theorem nbits_shift {A j : Nat} (h : A ≠ 0) : nbits (A * 2 ^ j) = nbits A + j := by
  obtain ⟨k, e, l1, l2⟩ := nbits_ge h
  have hp : 0 < 2 ^ j := Nat.pow_pos (by omega)
  rw [e, show k + 1 + j = k + j + 1 by omega]
  refine nbits_of ?_ ?_
  · rw [Nat.pow_add]; exact Nat.mul_le_mul_right _ l1
  · rw [show k + j + 1 = k + 1 + j by omega, Nat.pow_add]; exact (Nat.mul_lt_mul_right hp).2 l2
theorem trunc_scale {w : Int} {A B j : Nat} (hB : B ≠ 0) : trunc w (A * 2 ^ j) (B * 2 ^ j) = trunc w A B := by
  have hp : 0 < 2 ^ j := Nat.pow_pos (by omega)
  by_cases hA : A = 0
  · subst hA; rw [Nat.zero_mul]; unfold trunc; rw [if_pos rfl, if_pos rfl]
  · have hA2 : A * 2 ^ j ≠ 0 := by
      have := Nat.mul_pos (Nat.pos_of_ne_zero hA) hp; omega
    have hs : scale0 w (A * 2 ^ j) (B * 2 ^ j) = scale0 w A B := by
      unfold scale0
      rw [nbits_shift hA, nbits_shift hB]
      congr 1
      omega
    have hq : ∀ s, qS (A * 2 ^ j) (B * 2 ^ j) s = qS A B s ∧ (rS (A * 2 ^ j) (B * 2 ^ j) s = 0 ↔ rS A B s = 0) := by
      intro s
      unfold qS rS
      have hz : ∀ x : Nat, (x * 2 ^ j = 0 ↔ x = 0) := fun x => by
        rw [Nat.mul_eq_zero]; omega
      by_cases h : 0 ≤ s
      · rw [if_pos h, if_pos h, if_pos h, if_pos h, Nat.mul_right_comm, Nat.mul_div_mul_right _ _ hp, Nat.mul_mod_mul_right]
        exact ⟨rfl, hz _⟩
      · rw [if_neg h, if_neg h, if_neg h, if_neg h, Nat.mul_right_comm B, Nat.mul_div_mul_right _ _ hp, Nat.mul_mod_mul_right]
        exact ⟨rfl, hz _⟩
    have hd : ∀ s, decide (rS (A * 2 ^ j) (B * 2 ^ j) s = 0) = decide (rS A B s = 0) := fun s => decide_eq_decide.2 (hq s).2
    unfold trunc
    rw [if_neg hA2, if_neg hA, hs, (hq _).1, hd]
theorem roundF_scale {w : Int} {s : Bool} {A B j : Nat} {up : Bool} (hB : B ≠ 0) : roundF w s (A * 2 ^ j) (B * 2 ^ j) up = roundF w s A B up := by
  unfold roundF
  rw [trunc_scale hB]
theorem dvd_two_pow : ∀ (k : Nat) {d : Nat}, d ∣ 2 ^ k → ∃ i, d = 2 ^ i
  | 0, d, h => ⟨0, by rw [Nat.pow_zero] at *; exact Nat.dvd_one.1 h⟩
  | k + 1, d, h => by
    by_cases h2 : d % 2 = 0
    · obtain ⟨e, rfl⟩ := Nat.dvd_of_mod_eq_zero h2
      rw [Nat.pow_succ, Nat.mul_comm] at h
      obtain ⟨i, rfl⟩ := dvd_two_pow k (Nat.dvd_of_mul_dvd_mul_right (show 0 < 2 by omega) h)
      exact ⟨i + 1, by rw [Nat.pow_succ, Nat.mul_comm]⟩
    · have hc : Nat.Coprime d 2 := by
        have h1 : d % 2 = 1 := by omega
        have : Nat.gcd 2 d = 1 := by rw [Nat.gcd_rec, h1]; decide
        rw [Nat.coprime_comm]; exact this
      rw [Nat.pow_succ] at h
      exact dvd_two_pow k (Nat.Coprime.dvd_of_dvd_mul_right hc h)
theorem vBot_pow (w o : Int) : ∃ t, vBot w o = 2 ^ t := by
  unfold vBot
  split
  · exact ⟨0, rfl⟩
  · exact ⟨_, rfl⟩
theorem val_two (w o : Int) : ∃ a b i : Nat, valF w o = (vSgn w o, (digs a, (digs b, ()))) ∧ vTop w o = a * 2 ^ i ∧ vBot w o = b * 2 ^ i ∧ b ≠ 0 ∧ a < 65536 ^ 68 ∧ b < 65536 ^ 68 := by
  obtain ⟨v1, v2⟩ := v_cap w o
  have hb0 := vBot_pos w o
  obtain ⟨t, ht⟩ := vBot_pow w o
  have hgd := Nat.gcd_dvd_right (vTop w o) (vBot w o)
  obtain ⟨i, hi⟩ : ∃ i, Nat.gcd (vTop w o) (vBot w o) = 2 ^ i := dvd_two_pow t (by rw [← ht]; exact hgd)
  have e1 := Nat.div_mul_cancel (Nat.gcd_dvd_left (vTop w o) (vBot w o))
  have e2 := Nat.div_mul_cancel hgd
  have l1 := Nat.div_le_self (vTop w o) (Nat.gcd (vTop w o) (vBot w o))
  have l2 := Nat.div_le_self (vBot w o) (Nat.gcd (vTop w o) (vBot w o))
  have hsg : (vSgn w o && decide (vTop w o ≠ 0)) = vSgn w o := by
    cases h : vSgn w o
    · rfl
    · have := part_sgn h
      simp [this]
  refine ⟨vTop w o / Nat.gcd (vTop w o) (vBot w o), vBot w o / Nat.gcd (vTop w o) (vBot w o), i, ?_, by rw [← hi]; exact e1.symm, by rw [← hi]; exact e2.symm, ?_, Nat.lt_of_le_of_lt l1 v1, Nat.lt_of_le_of_lt l2 v2⟩
  · unfold valF
    rw [hsg]
  · intro h0
    rw [h0, Nat.zero_mul] at e2
    exact hb0 e2.symm
theorem nb_pow {a n : Nat} (ha : a < 65536 ^ 68) (hn : n ≤ 8) : nbits (a ^ n) ≤ 9600 := by
  obtain ⟨E, hE⟩ : ∃ E, E = 545 := ⟨_, rfl⟩
  by_cases h : a ^ n = 0
  · rw [h]; simp [nbits]
  · obtain ⟨k, e, l1, l2⟩ := nbits_ge h
    have h1 := pw_cap ha hn (E := E) (by omega)
    rw [show (65536 : Nat) = 2 ^ 16 from rfl, ← Nat.pow_mul] at h1
    have := pow_lt_of (Nat.lt_of_le_of_lt l1 h1)
    omega
/-- The power of a bound, down or up. -/
def powF (w : Int) (n : Nat) (up : Bool) (o : Int) : Int :=
  if o = top w ∨ o = -top w then (if n % 2 = 0 then top w else o) else roundF w (vSgn w o && oddB n) (vTop w o ^ n) (vBot w o ^ n) up
def spanAbs (w : Int) (s : SpanD) : SpanD := (true, (max 0 (max s.2.1 (-s.2.2.1)), (max (max s.2.1 (-s.2.1)) (max s.2.2.1 (-s.2.2.1)), ())))
def spanEven (w : Int) (n : Nat) (s : SpanD) : SpanD := if n % 2 = 0 then spanAbs w s else s
def spanPow (w : Int) (s : SpanD) (n : Int) : SpanD :=
  if spanFull w s = true ∧ 0 ≤ n ∧ n ≤ 8 then (if n = 0 then (true, (oneW w, (oneW w, ()))) else (true, (powF w n.toNat false (spanEven w n.toNat s).2.1, (powF w n.toNat true (spanEven w n.toNat s).2.2.1, ())))) else span0
theorem round_one {w : Int} (hw : w = 32 ∨ w = 64) (up : Bool) : roundF w false 1 1 up = oneW w := by
  have h1 := trunc_one hw
  have h2 : (trunc w 1 1).2 = true := by
    obtain ⟨g1, g2, g3, g4, g5⟩ := frac_great w
    have hG : 127 ≤ greatB w ∧ greatB w ≤ 1023 := by unfold greatB; split <;> omega
    have hF : (fracB w : Int) + 1 ≤ -leastB w := by rcases hw with rfl | rfl <;> decide
    have hs : scale0 w 1 1 = ((fracB w + 1 : Nat) : Int) := by
      unfold scale0; rw [nbits_one]; omega
    have hq : qS 1 1 ((fracB w + 1 : Nat) : Int) = 2 ^ (fracB w + 1) := by
      unfold qS
      rw [if_pos (by omega), Int.toNat_natCast, Nat.one_mul, Nat.div_one]
    have hr : rS 1 1 ((fracB w + 1 : Nat) : Int) = 0 := by
      unfold rS
      rw [if_pos (by omega), Nat.mod_one]
    have e0 : 2 ^ (fracB w + 1) % 2 = 0 := by rw [Nat.pow_succ]; omega
    have e1 : 2 ^ (fracB w + 1) / 2 = 2 ^ fracB w := by rw [Nat.pow_succ]; omega
    unfold trunc
    rw [if_neg (by omega), hs, hq, hr, if_pos (Nat.le_refl _), e0, e1]
    unfold truncE
    rw [if_pos (Nat.le_refl _), if_neg (by omega)]
    rfl
  unfold roundF
  rw [h1, h2]
  simp
theorem abs_facts {w : Int} {s : SpanD} (h : spanFull w s = true) : (w = 32 ∨ w = 64) ∧ -top w ≤ s.2.1 ∧ s.2.1 < top w ∧ -top w < s.2.2.1 ∧ s.2.2.1 ≤ top w ∧ s.2.1 ≤ s.2.2.1 ∧ s.1 = true := by
  obtain ⟨h1, hp, _⟩ := spanFull_ok h
  obtain ⟨hw, a1, a2, a3, a4, a5⟩ := pairOk_span hp
  exact ⟨hw, a1, a2, a3, a4, a5, h1⟩
theorem spec_SpanAbs_eq {α : Type} (N : Nat) (w : Int) (s : SpanD) (k : SpanD → Option α) (h : spanFull w s = true) : spec_SpanAbs N w s k = k (spanAbs w s) := by
  obtain ⟨hw, a1, a2, a3, a4, a5, h1⟩ := abs_facts h
  obtain ⟨_, _, hok⟩ := spanFull_ok h
  have ht := top_nonneg w
  rw [spec_SpanAbs.eq]
  unfold spec_SpanAbs.b spanAbs
  simp only [spec_SpanOk_eq, hok, h1, Bool.not_true, cond_false, spec_l9Of.eq, spec_l3Max_eq]
  unfold spec_l9Of.b
  have w1 : IntKind.i64.wrap (0 - s.2.2.1) = -s.2.2.1 := by rw [wrap_i64 (by omega) (by omega)]; omega
  have w2 : IntKind.i64.wrap (0 - s.2.1) = -s.2.1 := by rw [wrap_i64 (by omega) (by omega)]; omega
  obtain ⟨s1, lo, hi, u⟩ := s
  simp only at *
  subst h1
  by_cases c1 : 0 ≤ lo
  · simp only [c1, decide_true, cond_true]
    have e1 : max 0 (max lo (-hi)) = lo := by omega
    have e2 : max (max lo (-lo)) (max hi (-hi)) = hi := by omega
    rw [e1, e2]
  · by_cases c2 : hi ≤ 0
    · simp only [c1, c2, decide_true, decide_false, cond_true, cond_false, w1, w2]
      have e1 : max 0 (max lo (-hi)) = -hi := by omega
      have e2 : max (max lo (-lo)) (max hi (-hi)) = -lo := by omega
      rw [e1, e2]
    · simp only [c1, c2, decide_false, cond_false, w2]
      have e1 : max 0 (max lo (-hi)) = 0 := by omega
      have e2 : max (max lo (-lo)) (max hi (-hi)) = max (-lo) hi := by omega
      rw [e1, e2]
theorem impl_SpanAbs_eq {α : Type} (N : Nat) (w : Int) (s : SpanD) (k : SpanD → Option α) (h : spanFull w s = true) (hN : 1048576 < N) : impl_SpanAbs N w s k = k (spanAbs w s) := by
  obtain ⟨hw, a1, a2, a3, a4, a5, h1⟩ := abs_facts h
  have ht := top_nonneg w
  have w1 : IntKind.i64.wrap (0 - s.2.2.1) = -s.2.2.1 := by rw [wrap_i64 (by omega) (by omega)]; omega
  have w2 : IntKind.i64.wrap (0 - s.2.1) = -s.2.1 := by rw [wrap_i64 (by omega) (by omega)]; omega
  rw [impl_SpanAbs.eq]
  unfold impl_SpanAbs.b spanAbs
  simp only [impl_full_eq N w [s] _ (show [s].length ≤ 100 by simp) hN, List.all_cons, List.all_nil, Bool.and_true, h, Bool.not_true, cond_false, impl_size.eq, impl_some.eq, maxI_eq]
  unfold impl_size.b impl_some.b
  simp only [w1, w2, maxI_eq]
  have e1 : max (max 0 s.2.1) (-s.2.2.1) = max 0 (max s.2.1 (-s.2.2.1)) := by omega
  rw [e1]
theorem spec_l9Pow_eq {α : Type} (N : Nat) (w o : Int) (n : Nat) (up : Bool) (k : Int → Option α) (hw : w = 32 ∨ w = 64) (h1 : 1 ≤ n) (hn : n ≤ 8) (hN : cap < N) : spec_l9Pow N w o (n : Int) up k = k (powF w n up o) := by
  obtain ⟨m1, m2⟩ := v_cap w o
  have ht : Int.tmod (n : Int) 2 = ((n % 2 : Nat) : Int) := rfl
  rw [spec_l9Pow.eq]
  unfold spec_l9Pow.b powF
  simp only [spec_l9Infinite_eq, spec_BitTop_eq, ht]
  by_cases h : o = top w ∨ o = -top w
  · have : (decide (o = top w) || decide (o = -top w)) = true := by simpa using h
    rw [this, if_pos h]
    by_cases he : n % 2 = 0
    · have c : ((n % 2 : Nat) : Int) = 0 := by omega
      simp [he]
    · have c : ¬ ((n % 2 : Nat) : Int) = 0 := by omega
      simp only [cond_true, c, decide_false, cond_false, he, if_false]
  · have : (decide (o = top w) || decide (o = -top w)) = false := by simpa using h
    have hb : vBot w o ^ n ≠ 0 := by
      have := Nat.pow_pos (n := n) (Nat.pos_of_ne_zero (vBot_pos w o)); omega
    rw [this, if_neg h]
    simp only [cond_false, spec_l8Of_eq N w o _ hN, spec_l9Power_eq N _ _ _ n m1 m2 h1 hn hN, spec_l8Round_eq N w _ _ _ up _ hw (nb_pow m1 hn) (nb_pow m2 hn) hb hN]
theorem impl_power_eq {α : Type} (N : Nat) (w o : Int) (n : Nat) (k : Int → Int → Option α) (hw : w = 32 ∨ w = 64) (h1 : 1 ≤ n) (hn : n ≤ 8) (hN : cap < N) : impl_power N w o (n : Int) k = k (powF w n false o) (powF w n true o) := by
  obtain ⟨t1, t2⟩ := top_w hw
  have ht : Int.tmod (n : Int) 2 = ((n % 2 : Nat) : Int) := rfl
  have w1 : IntKind.i64.wrap (1 * top w) = top w := by rw [Int.one_mul]; exact wrap_i64 (by omega) (by omega)
  have w2 : IntKind.i64.wrap (-1 * top w) = -top w := by rw [Int.neg_mul, Int.one_mul]; exact wrap_i64 (by omega) (by omega)
  have c0 : ¬ (n : Int) = 0 := by omega
  rw [impl_power.eq]
  unfold impl_power.b
  simp only [impl_limitOf.eq, c0, decide_false, cond_false]
  unfold impl_limitOf.b
  simp only [impl_BitTop_eq, wrap_neg_top]
  by_cases h : o = top w
  · subst h
    simp only [decide_true, cond_true, impl_power_J4.eq]
    unfold impl_power_J4.b
    have c1 : ¬ (1 : Int) < 0 := by omega
    have c2 : ¬ (1 : Int) = 0 := by omega
    simp only [c1, decide_false, cond_false, impl_power_J6.eq]
    unfold impl_power_J6.b
    simp only [c2, decide_false, cond_false, impl_limit_floats.eq]
    unfold impl_limit_floats.b powF
    simp only [c2, decide_false, Bool.not_false, cond_true, impl_BitTop_eq, w1, true_or, if_true, ite_self]
  · by_cases h2 : o = -top w
    · subst h2
      have c3 : ¬ -top w = top w := by omega
      simp only [c3, decide_true, decide_false, cond_true, cond_false, impl_power_J4.eq]
      unfold impl_power_J4.b
      have c1 : (-1 : Int) < 0 := by omega
      have c2 : ¬ (-1 : Int) = 0 := by omega
      have c4 : ¬ (1 : Int) = 0 := by omega
      simp only [c1, decide_true, cond_true, ht]
      by_cases he : n % 2 = 0
      · have c : ((n % 2 : Nat) : Int) = 0 := by omega
        simp only [c, decide_true, cond_true, impl_limit_floats.eq]
        unfold impl_limit_floats.b powF
        simp only [c4, decide_false, Bool.not_false, cond_true, impl_BitTop_eq, w1, or_true, if_true, he]
      · have c : ¬ ((n % 2 : Nat) : Int) = 0 := by omega
        simp only [c, decide_false, cond_false, impl_power_J6.eq]
        unfold impl_power_J6.b
        simp only [c2, decide_false, cond_false, impl_limit_floats.eq]
        unfold impl_limit_floats.b powF
        simp only [c2, decide_false, Bool.not_false, cond_true, impl_BitTop_eq, w2, or_true, if_true, he, if_false]
    · obtain ⟨a, b, i, e1, e2, e3, hb0, ha, hb⟩ := val_two w o
      have hbn : b ^ n ≠ 0 := by
        have := Nat.pow_pos (n := n) (Nat.pos_of_ne_zero hb0); omega
      simp only [h, h2, decide_false, cond_false, impl_value_eq N w o _ hN, e1, impl_power_J4.eq]
      unfold impl_power_J4.b
      have c1 : ¬ (0 : Int) < 0 := by omega
      simp only [c1, decide_false, cond_false, impl_power_J6.eq]
      unfold impl_power_J6.b
      simp only [decide_true, cond_true, Frac_pow_small N _ a b n ha hb hn hN, impl_limit_floats.eq]
      unfold impl_limit_floats.b powF
      simp only [decide_true, Bool.not_true, cond_false, impl_around_eq N w _ _ _ _ hw (nb_pow ha hn) (nb_pow hb hn) hbn hN]
      rw [if_neg (by rintro (q | q); exact h q; exact h2 q), if_neg (by rintro (q | q); exact h q; exact h2 q), e2, e3, Nat.mul_pow, Nat.mul_pow, ← Nat.pow_mul, roundF_scale hbn, roundF_scale hbn]
theorem impl_power_zero {α : Type} (N : Nat) (w o : Int) (k : Int → Int → Option α) (hw : w = 32 ∨ w = 64) (hN : cap < N) : impl_power N w o (0 : Int) k = k (oneW w) (oneW w) := by
  have o1 : (1 : Nat) < 65536 ^ 256 := Nat.lt_of_lt_of_le (show 1 < 65536 ^ 1 by omega) (pow_up (by omega))
  have key : (impl_whole N false [1] (fun x y z => impl_around N w (x, (y, (z, ()))) (fun u v => k u v)) : Option α) = k (oneW w) (oneW w) := by
    simp only [← digs1, whole_eq, Bool.false_and, impl_around_eq N w false 1 1 _ hw (nb256 o1) (nb256 o1) (show (1 : Nat) ≠ 0 by omega) hN, round_one hw]
  rw [impl_power.eq]
  unfold impl_power.b
  simp only [impl_limitOf.eq, decide_true, cond_true]
  unfold impl_limitOf.b
  simp only [impl_BitTop_eq, wrap_neg_top, impl_value_eq N w o _ hN]
  by_cases h : o = top w
  · simp only [h, decide_true, cond_true]; exact key
  · by_cases h2 : o = -top w
    · simp only [h, h2, decide_true, decide_false, cond_true, cond_false]
      cases decide (-top w = top w) <;> exact key
    · simp only [h, h2, decide_false, cond_false]; exact key
theorem spec_SpanPow_eq {α : Type} (N : Nat) (w : Int) (s : SpanD) (n : Int) (k : SpanD → Option α) (hN : cap < N) : spec_SpanPow N w s n k = k (spanPow w s n) := by
  rw [spec_SpanPow.eq]
  unfold spec_SpanPow.b spanPow
  simp only [spec_SpanOk_eq]
  by_cases hf : spanFull w s = true
  · obtain ⟨hw, a1, a2, a3, a4, a5, s1⟩ := abs_facts hf
    obtain ⟨_, _, hok⟩ := spanFull_ok hf
    by_cases h0 : 0 ≤ n
    · by_cases h8 : n ≤ 8
      · have c1 : ¬ n < 0 := by omega
        have c2 : ¬ 8 < n := by omega
        obtain ⟨n, rfl⟩ : ∃ m : Nat, n = (m : Int) := ⟨n.toNat, by omega⟩
        simp only [hok, s1, hf, h0, h8, c1, c2, Bool.not_true, cond_false, decide_false, and_self, if_true, Int.toNat_natCast]
        by_cases hn0 : (n : Int) = 0
        · have h1 : ∀ K : Int → Option α, spec_l9One N w K = K (oneW w) := by
            intro K
            have o1 : (1 : Nat) < 65536 ^ 256 := Nat.lt_of_lt_of_le (show 1 < 65536 ^ 1 by omega) (pow_up (by omega))
            rw [spec_l9One.eq]
            unfold spec_l9One.b
            simp only [← digs1, spec_l8Round_eq N w false 1 1 false _ hw (nb256 o1) (nb256 o1) (show (1 : Nat) ≠ 0 by omega) hN, round_one hw]
          simp only [hn0, decide_true, cond_true, h1, spec_l9Of.eq, if_true]
          unfold spec_l9Of.b
          rfl
        · have hn1 : 1 ≤ n := by omega
          have hn8 : n ≤ 8 := by omega
          have ht : Int.tmod (n : Int) 2 = ((n % 2 : Nat) : Int) := rfl
          simp only [hn0, decide_false, cond_false, if_false, spec_SpanPow_J5.eq]
          unfold spec_SpanPow_J5.b spanEven
          simp only [ht, spec_SpanAbs_eq N w s _ hf]
          by_cases he : n % 2 = 0
          · have c : ((n % 2 : Nat) : Int) = 0 := by omega
            simp only [c, decide_true, cond_true, he, if_true, spec_l9Pow_eq N w _ n _ _ hw hn1 hn8 hN, spec_l9Of.eq]
            unfold spec_l9Of.b
            rfl
          · have c : ¬ ((n % 2 : Nat) : Int) = 0 := by omega
            simp only [c, decide_false, cond_false, he, if_false, spec_l9Pow_eq N w _ n _ _ hw hn1 hn8 hN, spec_l9Of.eq]
            unfold spec_l9Of.b
            rfl
      · have c1 : ¬ n < 0 := by omega
        have c2 : 8 < n := by omega
        simp [hf, hok, s1, h8, c1, c2, span0]
    · have c1 : n < 0 := by omega
      simp [hf, hok, s1, h0, c1, span0]
  · rw [if_neg (fun h => hf h.1)]
    cases h1 : spanOk w s
    · simp [span0]
    · cases h2 : s.1
      · simp [span0]
      · exact absurd (by unfold spanFull; rw [h1, h2]; rfl) hf
theorem impl_SpanPow_eq {α : Type} (N : Nat) (w : Int) (s : SpanD) (n : Int) (k : SpanD → Option α) (hN : cap < N) : impl_SpanPow N w s n k = k (spanPow w s n) := by
  have hNN := cap_N hN
  rw [impl_SpanPow.eq]
  unfold impl_SpanPow.b spanPow
  simp only [impl_full_eq N w [s] _ (show [s].length ≤ 100 by simp) (show 1048576 < N by omega), List.all_cons, List.all_nil, Bool.and_true, impl_in_eq]
  by_cases hf : spanFull w s = true
  · obtain ⟨hw, a1, a2, a3, a4, a5, s1⟩ := abs_facts hf
    by_cases h0 : 0 ≤ n
    · by_cases h8 : n ≤ 8
      · obtain ⟨n, rfl⟩ : ∃ m : Nat, n = (m : Int) := ⟨n.toNat, by omega⟩
        have ht : Int.tmod (n : Int) 2 = ((n % 2 : Nat) : Int) := rfl
        simp only [hf, h0, h8, Bool.and_self, Bool.not_true, cond_false, decide_true, and_self, if_true, Int.toNat_natCast, impl_SpanPow_J3.eq]
        unfold impl_SpanPow_J3.b spanEven
        simp only [ht, impl_SpanAbs_eq N w s _ hf (show 1048576 < N by omega)]
        by_cases hn0 : n = 0
        · subst hn0
          have c : ((0 % 2 : Nat) : Int) = 0 := rfl
          have e0 : ((0 : Nat) : Int) = 0 := rfl
          simp only [c, e0, decide_true, cond_true, impl_power_zero N w _ _ hw hN, impl_some.eq, if_true]
          unfold impl_some.b
          rfl
        · have hn1 : 1 ≤ n := by omega
          have hn8 : n ≤ 8 := by omega
          have hn0' : ¬ (n : Int) = 0 := by omega
          rw [if_neg hn0']
          by_cases he : n % 2 = 0
          · have c : ((n % 2 : Nat) : Int) = 0 := by omega
            simp only [c, decide_true, cond_true, he, if_true, impl_power_eq N w _ n _ hw hn1 hn8 hN, impl_some.eq]
            unfold impl_some.b
            rfl
          · have c : ¬ ((n % 2 : Nat) : Int) = 0 := by omega
            simp only [c, decide_false, cond_false, he, if_false, impl_power_eq N w _ n _ hw hn1 hn8 hN, impl_some.eq]
            unfold impl_some.b
            rfl
      · simp [hf, h8, span0]
    · simp [hf, h0, span0]
  · simp [hf, span0]
theorem pure_FnExactSpanPow (x0 : Int) (x1 : SpanD) (x2 : Int) : ∃ N, laws_FnExactSpanPow N x0 x1 x2 some = some true := by
  refine ⟨cap + 1, ?_⟩
  have hN : cap < cap + 1 := by omega
  generalize cap + 1 = N at *
  rw [laws_FnExactSpanPow.eq]
  unfold laws_FnExactSpanPow.b
  simp only [laws_toSpan_eq, spec_SpanPow_eq N _ _ _ _ hN, impl_SpanPow_eq N _ _ _ _ hN, laws_eqSpan_eq, Bool.not_true, cond_false]
end Go.Proofs.YtlbihmicbncdiaaDoorAm
