/-
  The values of floats as fractions; what a pair, a span, a box has; the laws.
-/
import Derived.Test.YtlbihmicbncdiaaDoorT
import Derived.Test.YtlbihmicbncdiaaDoorK
import Derived.Test.YtlbihmicbncdiaaDoorBb
import Derived.Test.YtlbihmicbncdiaaDoorB
namespace Go.Proofs.YtlbihmicbncdiaaDoorAm
open Go
set_option linter.unusedVariables false
set_option linter.unusedSimpArgs false

theorem bandU {x : Nat} (hx : x < 18446744073709551616) : bitI .and .u64 (x : Int) 65535 = ((x % 65536 : Nat) : Int) := by
  have e : (65535 : Int) = ((65535 : Nat) : Int) := rfl
  have h : x &&& 65535 = x % 65536 := Nat.and_two_pow_sub_one_eq_mod x 16
  rw [e]
  show IntKind.u64.wrap (((BitVec.ofInt 64 (x : Int) &&& BitVec.ofInt 64 ((65535 : Nat) : Int)).toNat : Nat) : Int) = _
  rw [BitVec.ofInt_natCast, BitVec.ofInt_natCast, BitVec.toNat_and, BitVec.toNat_ofNat, BitVec.toNat_ofNat]
  rw [Nat.mod_eq_of_lt (by omega), Nat.mod_eq_of_lt (show 65535 < 2 ^ 64 by decide), h, wrap_u64 (by omega) (by omega)]
theorem impl_natOf_loop {α : Type} (N : Nat) (k : List Int → Option α) : ∀ (n v : Nat) (l : List Int), v < n → v < 18446744073709551616 → (digs v).length + l.length < 8796093022208 →
    impl_natOf_L0 N n (v : Int) l k = k (l ++ digs v) := by
  intro n
  induction n with
  | zero => intro v l h; omega
  | succ n ih =>
    intro v l h hv hl2
    rw [impl_natOf_L0.succ]
    unfold impl_natOf_L0r
    by_cases h0 : v = 0
    · subst h0; simp [digs_zero]
    · have c : (0 : Int) < (v : Int) := by omega
      have t1 := bandU (x := v) hv
      have t2 : shrI .u64 (v : Int) 16 = ((v / 65536 : Nat) : Int) := shrN (q := .u64) (x := v) (k := 16) rfl (by omega)
      have w1 : IntKind.i64.wrap ((v % 65536 : Nat) : Int) = ((v % 65536 : Nat) : Int) := wrapn (by omega)
      have e := digs_pos h0
      rw [e, List.length_cons] at hl2
      have c2 : l.length + [((v % 65536 : Nat) : Int)].length ≤ 8796093022208 := by simp; omega
      simp only [c, decide_true, cond_true, t1, t2, w1, c2]
      rw [ih _ _ (by omega) (by omega) (by simp; omega), e, List.append_assoc, List.singleton_append]
theorem impl_natOf_eq {α : Type} (N v : Nat) (k : List Int → Option α) (hv : v < 18446744073709551616) (hN : cap < N) : impl_natOf N (v : Int) k = k (digs v) := by
  have h0 := cap_64
  have h1 : v < 65536 ^ 4 := by omega
  have h2 := digs_len_le h1
  have h3 : v < N := Nat.lt_trans (Nat.lt_of_lt_of_le hv h0) hN
  rw [impl_natOf.eq]
  unfold impl_natOf.b
  rw [impl_natOf_loop N _ N v [] h3 hv (by simp; omega)]
  simp
/-- Top and bottom of a float's value, not in lowest terms. -/
def vTop (w o : Int) : Nat := if 0 ≤ (partOf w o).1.2.2.1 then (partOf w o).1.2.1.toNat * 2 ^ (partOf w o).1.2.2.1.toNat else (partOf w o).1.2.1.toNat
def vBot (w o : Int) : Nat := if 0 ≤ (partOf w o).1.2.2.1 then 1 else 2 ^ (-(partOf w o).1.2.2.1).toNat
def vSgn (w o : Int) : Bool := (partOf w o).1.1
theorem partOf_bounds (w o : Int) : 0 ≤ (partOf w o).1.2.1 ∧ (partOf w o).1.2.1 < 18446744073709551616 ∧ -1074 ≤ (partOf w o).1.2.2.1 ∧ (partOf w o).1.2.2.1 ≤ 1000 := by
  obtain ⟨g1, g2, g3, g4, g5⟩ := frac_great w
  have hp := pow_le_52 g2
  have hp0 : 0 < 2 ^ fracB w := Nat.pow_pos (by omega)
  have hmod : o.natAbs % 2 ^ fracB w < 2 ^ fracB w := Nat.mod_lt _ hp0
  unfold partOf
  split
  · rename_i h
    obtain ⟨hw, b1, b2⟩ := bitOk_w h.1
    have hq : o.natAbs / 2 ^ fracB w ≤ (2 * greatB w + 1).toNat := by
      have ht := top_eq hw
      have : o.natAbs ≤ (2 * greatB w + 1).toNat * 2 ^ fracB w := by omega
      have := Nat.div_le_div_right (c := 2 ^ fracB w) this
      rwa [Nat.mul_div_cancel _ hp0] at this
    have hG : greatB w = 127 ∧ leastB w = -149 ∨ greatB w = 1023 ∧ leastB w = -1074 := by unfold greatB leastB; split <;> simp
    generalize o.natAbs % 2 ^ fracB w = f at *
    generalize o.natAbs / 2 ^ fracB w = e at *
    split
    · simp only; omega
    · simp only; omega
  · simp only; omega
theorem part_sgn {w o : Int} (h : vSgn w o = true) : vTop w o ≠ 0 := by
  obtain ⟨p1, p2, p3, p4⟩ := partOf_bounds w o
  have hs : (partOf w o).1.2.1 ≠ 0 := by
    unfold vSgn at h
    unfold partOf at *
    have hp0 : 0 < 2 ^ fracB w := Nat.pow_pos (by omega)
    split at h
    · rename_i hc
      rw [if_pos hc]
      split at h
      · rename_i h0
        rw [if_pos h0]
        simp only [decide_eq_true_eq] at h
        have := Nat.div_add_mod o.natAbs (2 ^ fracB w)
        rw [h0, Nat.mul_zero] at this
        simp only; omega
      · rename_i h0
        rw [if_neg h0]
        simp only; omega
    · simp at h
  unfold vTop
  have hp : ∀ i : Nat, 0 < 2 ^ i := fun i => Nat.pow_pos (by omega)
  split
  · have := hp (partOf w o).1.2.2.1.toNat
    intro h0
    rcases Nat.mul_eq_zero.1 h0 with h1 | h1 <;> omega
  · omega
theorem vBot_pos (w o : Int) : vBot w o ≠ 0 := by
  unfold vBot
  split
  · omega
  · have := Nat.pow_pos (n := (-(partOf w o).1.2.2.1).toNat) (show 0 < 2 by omega); omega
theorem v_cap (w o : Int) : vTop w o < 65536 ^ 68 ∧ vBot w o < 65536 ^ 68 := by
  obtain ⟨p1, p2, p3, p4⟩ := partOf_bounds w o
  unfold vTop vBot
  generalize (partOf w o).1.2.1 = s at *
  generalize (partOf w o).1.2.2.1 = p at *
  have hs : s.toNat < 65536 ^ 4 := by omega
  constructor
  · split
    · have h2 : 2 ^ p.toNat < 65536 ^ 64 := pow2_cap (by omega)
      exact mul_cap hs h2
    · exact Nat.lt_of_lt_of_le hs (pow_up (by omega))
  · split
    · exact Nat.lt_of_lt_of_le (show 1 < 65536 ^ 1 by omega) (pow_up (by omega))
    · exact pow2_cap (by omega)
theorem cap68 {n : Nat} (h : n < 65536 ^ 68) : n < cap0 := lt_cap0 h (by omega)
theorem spec_l8Of_eq {α : Type} (N : Nat) (w o : Int) (k : Bool → List Int → List Int → Option α) (hN : cap < N) : spec_l8Of N w o k = k (vSgn w o) (digs (vTop w o)) (digs (vBot w o)) := by
  obtain ⟨p1, p2, p3, p4⟩ := partOf_bounds w o
  obtain ⟨c1, c2⟩ := v_cap w o
  rw [spec_l8Of.eq]
  unfold spec_l8Of.b
  simp only [spec_BitPartOf_eq]
  rw [spec_l8Of_J3.eq]
  unfold spec_l8Of_J3.b vTop vBot vSgn at *
  generalize (partOf w o).1 = q at *
  obtain ⟨sg, s, p, un⟩ := q
  simp only at *
  obtain ⟨n, rfl⟩ : ∃ n : Nat, s = n := ⟨s.toNat, by omega⟩
  have hn64 : n < 18446744073709551616 := by omega
  have hnc : n < cap := Nat.lt_of_lt_of_le hn64 cap_64
  rw [spec_NatOf_eq N n _ hn64 hN]
  by_cases h : 0 ≤ p
  · obtain ⟨i, rfl⟩ : ∃ i : Nat, p = i := ⟨p.toNat, by omega⟩
    have hp : 2 ^ i < cap := cap0_lt (pow_lt_cap0 (by omega))
    simp only [decide_true, cond_true, spec_l5Pow2_eq N i _ (show i < 1000000 by omega) hN, spec_l5Mul_eq N n (2 ^ i) _ hnc hp hN, if_true, Int.toNat_natCast, digs1, h]
  · obtain ⟨i, rfl⟩ : ∃ i : Nat, p = -(i : Int) := ⟨p.natAbs, by omega⟩
    have w1 : IntKind.i64.wrap (0 - -(i : Int)) = (i : Int) := by rw [wrap_i64 (by omega) (by omega)]; omega
    have e1 : (- -(i : Int)).toNat = i := by omega
    simp only [h, decide_false, cond_false, w1, spec_l5Pow2_eq N i _ (show i < 1000000 by omega) hN, if_false, Int.toNat_natCast, e1]
def valF (w o : Int) : FracD := (vSgn w o && decide (vTop w o ≠ 0), (digs (vTop w o / Nat.gcd (vTop w o) (vBot w o)), (digs (vBot w o / Nat.gcd (vTop w o) (vBot w o)), ())))
theorem whole_eq {α : Type} (N : Nat) (s : Bool) (q : Nat) (k : Bool → List Int → List Int → Option α) : impl_whole N s (digs q) k = k (s && decide (q ≠ 0)) (digs q) (digs 1) := by
  rw [impl_whole.eq]
  unfold impl_whole.b
  simp only [len_cast_pos, ← digs1]
  cases s
  · simp only [cond_false, Bool.false_and]
  · simp only [cond_true, Bool.true_and]
theorem impl_value_eq {α : Type} (N : Nat) (w o : Int) (k : FracD → Option α) (hN : cap < N) : impl_value N w o k = k (valF w o) := by
  obtain ⟨p1, p2, p3, p4⟩ := partOf_bounds w o
  obtain ⟨c1, c2⟩ := v_cap w o
  rw [impl_value.eq]
  unfold impl_value.b valF
  simp only [impl_BitPartOf_eq]
  unfold vTop vBot vSgn at *
  generalize (partOf w o).1 = q at *
  obtain ⟨sg, s, p, un⟩ := q
  simp only at *
  obtain ⟨n, rfl⟩ : ∃ n : Nat, s = n := ⟨s.toNat, by omega⟩
  have hn64 : n < 18446744073709551616 := by omega
  have hnc : n < cap := Nat.lt_of_lt_of_le hn64 cap_64
  have hn0 : n < cap0 := lt_cap0 (k := 4) (by omega) (by omega)
  rw [impl_natOf_eq N n _ hn64 hN]
  have h1c : (1 : Nat) < cap := by have := cap_ge; omega
  by_cases h : 0 ≤ p
  · obtain ⟨i, rfl⟩ : ∃ i : Nat, p = i := ⟨p.toNat, by omega⟩
    simp only [decide_true, cond_true, impl_natShift_pos N n i _ hnc (show i < 1000000 by omega) hN, whole_eq, if_true, Int.toNat_natCast, h, Nat.gcd_one_right, Nat.div_one]
  · obtain ⟨i, rfl⟩ : ∃ i : Nat, p = -(i : Int) := ⟨p.natAbs, by omega⟩
    have w1 : IntKind.i64.wrap (0 - -(i : Int)) = (i : Int) := by rw [wrap_i64 (by omega) (by omega)]; omega
    have e1 : (- -(i : Int)).toNat = i := by omega
    have hp : 2 ^ i < cap0 := pow_lt_cap0 (by omega)
    have hp0 : 2 ^ i ≠ 0 := by have := Nat.pow_pos (n := i) (show 0 < 2 by omega); omega
    simp only [h, decide_false, cond_false, w1, ← digs1, impl_natShift_pos N 1 i _ h1c (show i < 1000000 by omega) hN, Nat.one_mul, impl_lowest_eq N sg n (2 ^ i) _ hn0 hp hp0 hN, if_false, Int.toNat_natCast, e1]
theorem laws_toSpan_eq {α : Type} (N : Nat) (p : Bool × Int × Int × Unit) (k : (Bool × Int × Int × Unit) → Option α) : laws_toSpan N p k = k p := by
  rw [laws_toSpan.eq]; rfl
end Go.Proofs.YtlbihmicbncdiaaDoorAm
