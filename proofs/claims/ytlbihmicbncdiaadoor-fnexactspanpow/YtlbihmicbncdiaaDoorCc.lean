/-
  Spans; powers and roots of floats.
-/
import Derived.Test.YtlbihmicbncdiaaDoorCb
namespace Go.Proofs.YtlbihmicbncdiaaDoorAm
open Go
set_option linter.unusedVariables false
set_option linter.unusedSimpArgs false

abbrev SpanD := Bool × Int × Int × Unit
def spanOk (w : Int) (s : SpanD) : Bool := if s.1 = true then pairOk w (s.2.1, (s.2.2.1, ())) else (decide (w = 32 ∨ w = 64) && decide (s.2.1 = 0) && decide (s.2.2.1 = 0))
def span0 : SpanD := (false, (0, (0, ())))
def spanFull (w : Int) (s : SpanD) : Bool := s.1 && spanOk w s
theorem spanFull_ok {w : Int} {s : SpanD} (h : spanFull w s = true) : s.1 = true ∧ pairOk w (s.2.1, (s.2.2.1, ())) = true ∧ spanOk w s = true := by
  simp only [spanFull, Bool.and_eq_true] at h
  obtain ⟨h1, h2⟩ := h
  have h3 := h2
  unfold spanOk at h3
  rw [if_pos h1] at h3
  exact ⟨h1, h3, h2⟩
theorem pairOk_span {w : Int} {a b : Int} (h : pairOk w (a, (b, ())) = true) : (w = 32 ∨ w = 64) ∧ -top w ≤ a ∧ a < top w ∧ -top w < b ∧ b ≤ top w ∧ a ≤ b := by
  simp only [pairOk, Bool.and_eq_true, decide_eq_true_eq] at h
  obtain ⟨⟨⟨⟨h1, h2⟩, h3⟩, h4⟩, h5⟩ := h
  obtain ⟨hw, a1, a2⟩ := bitOk_w h1
  obtain ⟨_, b1, b2⟩ := bitOk_w h2
  exact ⟨hw, a1, by omega, by omega, b2, h3⟩
theorem spec_SpanOk_eq {α : Type} (N : Nat) (w : Int) (s : SpanD) (k : Bool → Option α) : spec_SpanOk N w s k = k (spanOk w s) := by
  rw [spec_SpanOk.eq]
  unfold spec_SpanOk.b spanOk
  simp only [spec_l9Pair.eq, spec_l1Width_eq, spec_PairOk_eq]
  unfold spec_l9Pair.b
  obtain ⟨s1, lo, hi, u⟩ := s
  cases s1
  · by_cases hw : w = 32 ∨ w = 64 <;> by_cases h1 : lo = 0 <;> by_cases h2 : hi = 0 <;> simp [hw, h1, h2]
  · simp [spec_PairOk_eq]
theorem impl_SpanOk_eq {α : Type} (N : Nat) (w : Int) (s : SpanD) (k : Bool → Option α) : impl_SpanOk N w s k = k (spanOk w s) := by
  rw [impl_SpanOk.eq]
  unfold impl_SpanOk.b spanOk
  simp only [impl_formatOf_eq, impl_PairOk_eq]
  obtain ⟨s1, lo, hi, u⟩ := s
  by_cases hw : w = 32 ∨ w = 64
  · cases s1
    · by_cases h1 : lo = 0 <;> by_cases h2 : hi = 0 <;> simp [hw, h1, h2]
    · cases h : pairOk w (lo, (hi, ())) <;> simp [hw, h]
  · have : pairOk w (lo, (hi, ())) = false := by
      cases h : pairOk w (lo, (hi, ())) with
      | false => rfl
      | true => exact absurd (pairOk_span h).1 hw
    cases s1 <;> simp [hw, this]
theorem impl_full_loop {α : Type} (N : Nat) (w : Int) (l : List SpanD) (hb : l.length ≤ 100) (k : Bool → Option α) (k1 : Option α) : ∀ (d i n : Nat), i + d = l.length → d < n →
    impl_full_L0 N n w l ((l.length : Nat) : Int) (i : Int) k k1 = if ((l.drop i).all fun s => spanFull w s) = true then k1 else k false := by
  intro d
  induction d with
  | zero =>
    intro i n h hn
    obtain ⟨n, rfl⟩ : ∃ m, n = m + 1 := ⟨n - 1, by omega⟩
    rw [impl_full_L0.succ]
    unfold impl_full_L0r
    simp only [cast_nlt (show ¬ i < l.length by omega), cond_false, List.drop_of_length_le (show l.length ≤ i by omega), List.all_nil, if_true]
  | succ d ih =>
    intro i n h hn
    obtain ⟨n, rfl⟩ : ∃ m, n = m + 1 := ⟨n - 1, by omega⟩
    have hi : i < l.length := by omega
    rw [impl_full_L0.succ]
    unfold impl_full_L0r
    simp only [cast_lt hi, cast_neg, cond_true, cond_false, Int.toNat_natCast, List.getElem?_eq_getElem hi, List.drop_eq_getElem_cons hi, List.all_cons, impl_SpanOk_eq, succ_i (show i < 4611686018427387904 by omega)]
    have := ih (i + 1) n (by omega) (by omega)
    generalize l[i] = s at *
    unfold spanFull at *
    cases h1 : s.1
    · simp
    cases h2 : spanOk w s
    · simp
    simp only [Bool.not_true, cond_false, Bool.true_and]
    exact this
theorem impl_full_eq {α : Type} (N : Nat) (w : Int) (l : List SpanD) (k : Bool → Option α) (hb : l.length ≤ 100) (hN : 1048576 < N) : impl_full N w l k = k (l.all fun s => spanFull w s) := by
  rw [impl_full.eq]
  unfold impl_full.b
  refine (impl_full_loop N w l hb _ _ l.length 0 N (by omega) (by omega)).trans ?_
  rw [List.drop_zero]
  cases h : l.all fun s => spanFull w s <;> simp
theorem laws_eqSpan_eq {α : Type} (N : Nat) (a : SpanD) (k : Bool → Option α) : laws_eqSpan N a a k = k true := by
  rw [laws_eqSpan.eq]
  unfold laws_eqSpan.b
  simp
theorem pw_cap {a i E : Nat} (ha : a < 65536 ^ 68) (hi : i ≤ 8) (hE : 545 ≤ E) : a ^ i < 65536 ^ E := by
  have h1 : a ^ i ≤ (65536 ^ 68) ^ i := Nat.pow_le_pow_left (Nat.le_of_lt ha) i
  rw [← Nat.pow_mul] at h1
  exact Nat.lt_of_le_of_lt h1 (Nat.pow_lt_pow_right (by omega) (by omega))
theorem pw_lt {a i : Nat} (ha : a < 65536 ^ 68) (hi : i ≤ 8) : a ^ i < cap := by
  obtain ⟨E, hE⟩ : ∃ E, E = 545 := ⟨_, rfl⟩
  exact lt_cap (pw_cap ha hi (E := E) (by omega)) (by omega)
def oddB (n : Nat) : Bool := decide (n % 2 = 1)
theorem spec_l9Power_loop {α : Type} (N : Nat) (s : Bool) (a b n : Nat) (u : Bool) (x y : List Int) (ha : a < 65536 ^ 68) (hb : b < 65536 ^ 68) (hn : n ≤ 8) (hN : cap < N) (k : Bool → FracD → List Int → List Int → Option α) : ∀ (d i f : Nat), i + d = n → d < f → 1 ≤ i →
    spec_l9Power_L0 N f (n : Int) (i : Int) (s, (digs a, (digs b, ()))) u (s && oddB i, (digs (a ^ i), (digs (b ^ i), ()))) x y k = k u (s && oddB n, (digs (a ^ n), (digs (b ^ n), ()))) x y := by
  intro d
  induction d with
  | zero =>
    intro i f h hf h1
    obtain ⟨f, rfl⟩ : ∃ m, f = m + 1 := ⟨f - 1, by omega⟩
    obtain rfl : i = n := by omega
    rw [spec_l9Power_L0.succ]
    unfold spec_l9Power_L0r
    simp only [cast_nlt (show ¬ i < i by omega), cond_false]
  | succ d ih =>
    intro i f h hf h1
    obtain ⟨f, rfl⟩ : ∃ m, f = m + 1 := ⟨f - 1, by omega⟩
    have hs : (!(s && oddB i) == s) = (s && oddB (i + 1)) := by
      unfold oddB
      rcases Nat.mod_two_eq_zero_or_one i with h2 | h2
      · have h3 : (i + 1) % 2 = 1 := by omega
        rw [h2, h3]; cases s <;> rfl
      · have h3 : (i + 1) % 2 = 0 := by omega
        rw [h2, h3]; cases s <;> rfl
    have c1 : a < cap := cap0_lt (cap68 ha)
    have c2 : b < cap := cap0_lt (cap68 hb)
    rw [spec_l9Power_L0.succ]
    unfold spec_l9Power_L0r
    simp only [cast_lt (show i < n by omega), cond_true, spec_l5Mul_eq N _ _ _ (pw_lt ha (show i ≤ 8 by omega)) c1 hN, spec_l5Mul_eq N _ _ _ (pw_lt hb (show i ≤ 8 by omega)) c2 hN, ← Nat.pow_succ, succ_i (show i < 4611686018427387904 by omega)]
    have := ih (i + 1) f (by omega) (by omega) (by omega)
    rw [← hs] at this
    exact this
theorem spec_l9Power_eq {α : Type} (N : Nat) (s : Bool) (a b n : Nat) (ha : a < 65536 ^ 68) (hb : b < 65536 ^ 68) (h1 : 1 ≤ n) (hn : n ≤ 8) (hN : cap < N) (k : FracD → Option α) :
    spec_l9Power N (s, (digs a, (digs b, ()))) (n : Int) k = k (s && oddB n, (digs (a ^ n), (digs (b ^ n), ()))) := by
  have hNN := cap_N hN
  rw [spec_l9Power.eq]
  unfold spec_l9Power.b
  have := spec_l9Power_loop N s a b n false [] [] ha hb hn hN (fun _ x _ _ => k x) (n - 1) 1 N (by omega) (by omega) (by omega)
  rw [Nat.pow_one, Nat.pow_one, show (s && oddB 1) = s by cases s <;> rfl] at this
  exact this
theorem natPow_small_loop {α : Type} (N a e : Nat) (ha : a < 65536 ^ 68) (he : e ≤ 8) (hN : cap < N) (k : List Int → Option α) : ∀ (d i n : Nat), i + d = e → d < n →
    impl_natPow_L0 N n (digs a) (digs (a ^ i)) (e : Int) (i : Int) k = k (digs (a ^ e)) := by
  intro d
  induction d with
  | zero =>
    intro i n h hn
    obtain ⟨m, rfl⟩ : ∃ m, n = m + 1 := ⟨n - 1, by omega⟩
    obtain rfl : i = e := by omega
    rw [impl_natPow_L0.succ]
    unfold impl_natPow_L0r
    simp only [cast_nlt (show ¬ i < i by omega), cond_false]
  | succ d ih =>
    intro i n h hn
    obtain ⟨m, rfl⟩ : ∃ m, n = m + 1 := ⟨n - 1, by omega⟩
    obtain ⟨E, hE⟩ : ∃ E, E = 545 := ⟨_, rfl⟩
    have hl := digs_len_le (pw_cap ha (show i + 1 ≤ 8 by omega) (E := E) (by omega))
    have c1 : ¬ ((1024 : Int) < ((digs (a ^ (i + 1))).length : Int)) := by omega
    rw [impl_natPow_L0.succ]
    unfold impl_natPow_L0r
    simp only [cast_lt (show i < e by omega), cond_true, impl_natMul_eq N _ _ _ (pw_lt ha (show i ≤ 8 by omega)) (cap0_lt (cap68 ha)) hN, ← Nat.pow_succ, succ_i (show i < 4611686018427387904 by omega), c1, decide_false, cond_false]
    exact ih (i + 1) m (by omega) (by omega)
theorem natPow_small {α : Type} (N a e : Nat) (ha : a < 65536 ^ 68) (he : e ≤ 8) (hN : cap < N) (k : List Int → Option α) : impl_natPow N (digs a) (e : Int) k = k (digs (a ^ e)) := by
  have hNN := cap_N hN
  rw [impl_natPow.eq]
  unfold impl_natPow.b
  have := natPow_small_loop N a e ha he hN (fun x => k x) e 0 N (by omega) (by omega)
  rw [Nat.pow_zero, digs1] at this
  exact this
theorem Frac_pow_small {α : Type} (N : Nat) (s : Bool) (a b n : Nat) (ha : a < 65536 ^ 68) (hb : b < 65536 ^ 68) (hn : n ≤ 8) (hN : cap < N) (k : FracD → Option α) :
    impl_Frac_pow N (s, (digs a, (digs b, ()))) (n : Int) k = k (s && oddB n, (digs (a ^ n), (digs (b ^ n), ()))) := by
  have e : decide (Int.tmod (n : Int) 2 = 1) = oddB n := by
    have : Int.tmod (n : Int) 2 = ((n % 2 : Nat) : Int) := rfl
    rw [this]
    unfold oddB
    by_cases h : n % 2 = 1
    · simp [h]
    · have h2 : n % 2 = 0 := by omega
      simp [h2]
  rw [impl_Frac_pow.eq]
  unfold impl_Frac_pow.b
  simp only [natPow_small N a n ha hn hN, natPow_small N b n hb hn hN, e]
  cases s <;> simp
end Go.Proofs.YtlbihmicbncdiaaDoorAm
