/-
  What the reference's functions on naturals compute, in plain words: sums, differences, quotients, divisors.
-/
import Derived.Test.YtnhbcpmmdblkjaaGreatDoorH
namespace Go.Proofs.YtnhbcpmmdblkjaaGreatDoorAm
open Go
set_option linter.unusedVariables false
set_option linter.unusedSimpArgs false

theorem ipow_cast (i : Nat) : (65536 : Int) ^ i = ((65536 ^ i : Nat) : Int) := (Int.natCast_pow _ _).symm
theorem sum_nrm {a b n : Nat} {l : List Int} (hl : Dig l) (hn : l.length = max (digs a).length (digs b).length) (hv : val l = a + b) : l = digs (a + b) := by
 refine digs_of (nrm_of_ge hl fun hne => ?_) (by rw [hv]; rfl)
 have hp := List.length_pos_iff.2 hne
 rw [hv, hn, ipow_cast]
 rcases Nat.le_total (digs a).length (digs b).length with h | h
 ·rw [Nat.max_eq_right h]
  have : b ≠ 0 := by intro e; subst e; simp [digs_zero] at h; rw [hn, h] at hp; simp [digs_zero] at hp
  have := digs_len_ge this; omega
 ·rw [Nat.max_eq_left h]
  have : a ≠ 0 := by intro e; subst e; simp [digs_zero] at h; rw [hn, h] at hp; simp [digs_zero] at hp
  have := digs_len_ge this; omega
theorem spec_l5Add_loop {α : Type} (N : Nat) (a b : List Int) (ha : Dig a) (hb : Dig b) (t : Nat) (ht : t < 4611686018427) : ∀ (d i n : Nat), i + d = t → d < n → ∀ (c : Int) (o : List Int), 0 ≤ c → c ≤ 1 → Dig o → o.length = i → val o + c * 65536 ^ i = val (a.take i) + val (b.take i) →
    ∃ c' o', (∀ k : Int → List Int → Option α, spec_l5Add_L0 N n a b t c i o k = k c' o') ∧ 0 ≤ c' ∧ c' ≤ 1 ∧ Dig o' ∧ o'.length = t ∧ val o' + c' * 65536 ^ t = val (a.take t) + val (b.take t) := by
  intro d
  induction d with
  | zero =>
    intro i n h hn c o c0 c1 ho hl hv
    obtain ⟨m, rfl⟩ : ∃ m, n = m + 1 := ⟨n - 1, by omega⟩
    have hit : i = t := by omega
    subst hit
    refine ⟨c, o, fun k => ?_, c0, c1, ho, hl, hv⟩
    rw [spec_l5Add_L0.succ]
    unfold spec_l5Add_L0r
    simp only [cast_nlt (show ¬ i < i by omega), cond_false]
  | succ d ih =>
    intro i n h hn c o c0 c1 ho hl hv
    obtain ⟨m, rfl⟩ : ∃ m, n = m + 1 := ⟨n - 1, by omega⟩
    have x1 := dig_getD ha i
    have x2 := dig_getD hb i
    have w1 : IntKind.i64.wrap (a.getD i 0 + b.getD i 0) = a.getD i 0 + b.getD i 0 := wrap_i64 (by omega) (by omega)
    have w2 : IntKind.i64.wrap (a.getD i 0 + b.getD i 0 + c) = a.getD i 0 + b.getD i 0 + c := wrap_i64 (by omega) (by omega)
    have t1 := tdiv_b (x := a.getD i 0 + b.getD i 0 + c) (by omega)
    have t2 := tmod_b (x := a.getD i 0 + b.getD i 0 + c) (by omega)
    have w4 : IntKind.i64.wrap ((a.getD i 0 + b.getD i 0 + c) / 65536) = (a.getD i 0 + b.getD i 0 + c) / 65536 := wrap_i64 (by omega) (by omega)
    have hlen : o.length + [(a.getD i 0 + b.getD i 0 + c) % 65536].length ≤ 8796093022208 := by simp; omega
    obtain ⟨c', o', e, e1, e2, e3, e4, e5⟩ := ih (i + 1) m (by omega) (by omega) ((a.getD i 0 + b.getD i 0 + c) / 65536) (o ++ [(a.getD i 0 + b.getD i 0 + c) % 65536]) (by omega) (by omega) (dig_append.2 ⟨ho, dig_cons.2 ⟨by omega, dig_nil⟩⟩) (by simp [hl]) (by
      rw [val_append, hl, val_take_succ, val_take_succ, val, val, Int.pow_succ]
      have := Int.mul_ediv_add_emod (a.getD i 0 + b.getD i 0 + c) 65536
      grind)
    refine ⟨c', o', fun k => ?_, e1, e2, e3, e4, e5⟩
    rw [spec_l5Add_L0.succ]
    unfold spec_l5Add_L0r
    simp only [cast_lt (show i < t by omega), cond_true, spec_l5At_eq, w1, w2, t1, t2, w4, decide_eq_true hlen, succ_i (show i < 4611686018427387904 by omega)]
    exact e k
theorem spec_l5Add_eq {α : Type} (N a b : Nat) (k : List Int → Option α) (h1 : a < cap) (h2 : b < cap) (hN : cap < N) : spec_l5Add N (digs a) (digs b) k = k (digs (a + b)) := by
 have l1 := len_cap h1
 have l2 := len_cap h2
 have hN := cap_N hN
 rw [spec_l5Add.eq]
 unfold spec_l5Add.b
 have hj : ∀ k1 : List Int → List Int → Int → Option α, spec_l5Add_J2 N (digs a) (digs b) ((digs a).length : Int) k1 = k1 (digs a) (digs b) ((max (digs a).length (digs b).length : Nat) : Int) := by
  intro k1
  rw [spec_l5Add_J2.eq]
  unfold spec_l5Add_J2.b
  by_cases c : (digs a).length < (digs b).length
  ·simp only [cast_lt c, cond_true]; rw [Nat.max_eq_right (by omega)]
  ·simp only [cast_nlt c, cond_false]; rw [Nat.max_eq_left (by omega)]
 obtain ⟨c, o, e, c0, c1, ho, hl, hv⟩ := spec_l5Add_loop (α := α) N (digs a) (digs b) (dig_digs a) (dig_digs b) (max (digs a).length (digs b).length) (by omega) (max (digs a).length (digs b).length) 0 N (by omega) (by omega) 0 [] (by omega) (by omega) dig_nil rfl (by simp [val])
 rw [List.take_of_length_le (by omega), List.take_of_length_le (by omega), val_digs, val_digs] at hv
 simp only [hj]
 refine (e _).trans ?_
 rw [spec_l5Add_J12.eq]
 unfold spec_l5Add_J12.b
 by_cases h : 0 < c
 ·have h3 : c = 1 := by omega
  subst h3
  have hlen : o.length + [(1 : Int)].length ≤ 8796093022208 := by simp; omega
  simp only [show decide ((0 : Int) < 1) = true from rfl, cond_true, decide_eq_true hlen]
  congr 1
  refine digs_of (nrm_of_ge (dig_append.2 ⟨ho, dig_cons.2 ⟨by omega, dig_nil⟩⟩) fun hne => ?_) ?_
  ·rw [val_append]
   have := val_nonneg ho
   simp [val]; omega
  ·rw [val_append, hl, val, val]; omega
 ·simp only [h, decide_false, cond_false]
  congr 1
  have h3 : c = 0 := by omega
  subst h3
  exact sum_nrm (n := 0) ho hl (by omega)
theorem spec_l5Sub_loop {α : Type} (N : Nat) (a b : List Int) (ha : Dig a) (hb : Dig b) (ht : a.length < 4611686018427) : ∀ (d i n : Nat), i + d = a.length → d < n → ∀ (c : Int) (o : List Int), 0 ≤ c → c ≤ 1 → Dig o → o.length = i → val o - c * 65536 ^ i = val (a.take i) - val (b.take i) →
    ∃ c' o', (∀ k : List Int → Option α, spec_l5Sub_L0 N n a b c i o k = k o') ∧ 0 ≤ c' ∧ c' ≤ 1 ∧ Dig o' ∧ o'.length = a.length ∧ val o' - c' * 65536 ^ a.length = val a - val (b.take a.length) := by
  intro d
  induction d with
  | zero =>
    intro i n h hn c o c0 c1 ho hl hv
    obtain ⟨m, rfl⟩ : ∃ m, n = m + 1 := ⟨n - 1, by omega⟩
    have hit : i = a.length := by omega
    subst hit
    refine ⟨c, o, fun k => ?_, c0, c1, ho, hl, by rw [hv, List.take_of_length_le (Nat.le_refl _)]⟩
    rw [spec_l5Sub_L0.succ]
    unfold spec_l5Sub_L0r
    simp only [cast_nlt (show ¬ a.length < a.length by omega), cond_false]
  | succ d ih =>
    intro i n h hn c o c0 c1 ho hl hv
    obtain ⟨m, rfl⟩ : ∃ m, n = m + 1 := ⟨n - 1, by omega⟩
    have hi : i < a.length := by omega
    have x1 := dig_getD ha i
    have x2 := dig_getD hb i
    have w1 : IntKind.i64.wrap (a.getD i 0 - b.getD i 0) = a.getD i 0 - b.getD i 0 := wrap_i64 (by omega) (by omega)
    have w2 : IntKind.i64.wrap (a.getD i 0 - b.getD i 0 - c) = a.getD i 0 - b.getD i 0 - c := wrap_i64 (by omega) (by omega)
    have w3 : IntKind.i64.wrap (a.getD i 0 - b.getD i 0 - c + 65536) = a.getD i 0 - b.getD i 0 - c + 65536 := wrap_i64 (by omega) (by omega)
    have key : ∀ (c1 x : Int), 0 ≤ c1 → c1 ≤ 1 → 0 ≤ x → x < 65536 → x - c1 * 65536 = a.getD i 0 - b.getD i 0 - c →
        ∃ c' o', (∀ k : List Int → Option α, spec_l5Sub_L0 N m a b c1 ((i + 1 : Nat) : Int) (o ++ [x]) k = k o') ∧ 0 ≤ c' ∧ c' ≤ 1 ∧ Dig o' ∧ o'.length = a.length ∧ val o' - c' * 65536 ^ a.length = val a - val (b.take a.length) := by
      intro c1 x h0 h1 h2 h3 h4
      refine ih (i + 1) m (by omega) (by omega) c1 (o ++ [x]) h0 h1 (dig_append.2 ⟨ho, dig_cons.2 ⟨⟨h2, h3⟩, dig_nil⟩⟩) (by simp [hl]) ?_
      rw [val_append, hl, val_take_succ, val_take_succ, val, val, Int.pow_succ]
      grind
    by_cases hb : a.getD i 0 - b.getD i 0 - c < 0
    · have hlen : o.length + [a.getD i 0 - b.getD i 0 - c + 65536].length ≤ 8796093022208 := by simp; omega
      obtain ⟨c', o', e, e2⟩ := key 1 (a.getD i 0 - b.getD i 0 - c + 65536) (by omega) (by omega) (by omega) (by omega) (by omega)
      refine ⟨c', o', fun k => ?_, e2⟩
      rw [spec_l5Sub_L0.succ]
      unfold spec_l5Sub_L0r
      simp only [spec_l5Sub_J8.eq]
      unfold spec_l5Sub_J8.b
      simp only [cast_lt hi, cast_neg, cond_true, cond_false, Int.toNat_natCast, List.getElem?_eq_getElem hi, getD_at hi, spec_l5At_eq, w1, w2, w3, hb, decide_true, decide_eq_true hlen, succ_i (show i < 4611686018427387904 by omega)]
      exact e k
    · have hlen : o.length + [a.getD i 0 - b.getD i 0 - c].length ≤ 8796093022208 := by simp; omega
      obtain ⟨c', o', e, e2⟩ := key 0 (a.getD i 0 - b.getD i 0 - c) (by omega) (by omega) (by omega) (by omega) (by omega)
      refine ⟨c', o', fun k => ?_, e2⟩
      rw [spec_l5Sub_L0.succ]
      unfold spec_l5Sub_L0r
      simp only [spec_l5Sub_J8.eq]
      unfold spec_l5Sub_J8.b
      simp only [cast_lt hi, cast_neg, cond_true, cond_false, Int.toNat_natCast, List.getElem?_eq_getElem hi, getD_at hi, spec_l5At_eq, w1, w2, hb, decide_false, decide_eq_true hlen, succ_i (show i < 4611686018427387904 by omega)]
      exact e k
theorem spec_l5Sub_eq {α : Type} (N a b : Nat) (k : List Int → Option α) (h1 : a < cap) (h2 : b ≤ a) (hN : cap < N) : spec_l5Sub N (digs a) (digs b) k = k (digs (a - b)) := by
 have l1 := len_cap h1
 have hN := cap_N hN
 rw [spec_l5Sub.eq]
 unfold spec_l5Sub.b
 obtain ⟨c, o, e, c0, c1, ho, hl, hv⟩ := spec_l5Sub_loop (α := α) N (digs a) (digs b) (dig_digs a) (dig_digs b) (by omega) (digs a).length 0 N (by omega) (by omega) 0 [] (by omega) (by omega) dig_nil rfl (by simp [val])
 rw [List.take_of_length_le (digs_len_mono h2), val_digs, val_digs] at hv
 refine (e _).trans ?_
 have hc : c = 0 := by
  have h3 := val_lt ho
  rw [hl] at h3
  rcases (show c = 0 ∨ c = 1 by omega) with h4 | h4
  ·exact h4
  ·subst h4; omega
 subst hc
 rw [spec_l5Trim_eq N o _ (by omega) (by omega), tl_of ho (n := a - b) (by omega)]
end Go.Proofs.YtnhbcpmmdblkjaaGreatDoorAm
