/-
  The values of floats as fractions; what a pair, a span, a box has; the laws.
-/
import Derived.Test.YtlbihmicbncdiaaT
import Derived.Test.YtlbihmicbncdiaaK
import Derived.Test.YtlbihmicbncdiaaBb
import Derived.Test.YtlbihmicbncdiaaB
namespace Go.Proofs.YtlbihmicbncdiaaAm
open Go
set_option linter.unusedVariables false
set_option linter.unusedSimpArgs false

theorem bandU {x : Nat} (hx : x < 18446744073709551616) : bitI .and .u64 (x : Int) 65535 = ((x % 65536 : Nat) : Int) := by
  have e : (65535 : Int) = ((65535 : Nat) : Int) := rfl
  have h : x &&& 65535 = x % 65536 := Nat.and_two_pow_sub_one_eq_mod x 16
  rw [e]
  show IntKind.u64.wrap (((BitVec.ofInt 64 (x : Int) &&& BitVec.ofInt 64 ((65535 : Nat) : Int)).toNat : Nat) : Int) = _
  rw [BitVec.ofInt_natCast, BitVec.ofInt_natCast, BitVec.toNat_and, BitVec.toNat_ofNat, BitVec.toNat_ofNat]
  rw [Nat.mod_eq_of_lt (by omega), Nat.mod_eq_of_lt (show 65535 < 2 ^ 64 by decide), h, wrap_u64 (by omega) (by omega)]
theorem impl_natOf_loop {α : Type} (N : Nat) (k : List Int → Option α) : ∀ (n v : Nat) (l : List Int), v < n → v < 18446744073709551616 → (digs v).length + l.length < 8796093022208 →
    impl_natOf_L0 N n (v : Int) l k = k (l ++ digs v) := by
  intro n
  induction n with
  | zero => intro v l h; omega
  | succ n ih =>
    intro v l h hv hl2
    rw [impl_natOf_L0.succ]
    unfold impl_natOf_L0r
    by_cases h0 : v = 0
    · subst h0; simp [digs_zero]
    · have c : (0 : Int) < (v : Int) := by omega
      have t1 := bandU (x := v) hv
      have t2 : shrI .u64 (v : Int) 16 = ((v / 65536 : Nat) : Int) := shrN (q := .u64) (x := v) (k := 16) rfl (by omega)
      have w1 : IntKind.i64.wrap ((v % 65536 : Nat) : Int) = ((v % 65536 : Nat) : Int) := wrapn (by omega)
      have e := digs_pos h0
      rw [e, List.length_cons] at hl2
      have c2 : l.length + [((v % 65536 : Nat) : Int)].length ≤ 8796093022208 := by simp; omega
      simp only [c, decide_true, cond_true, t1, t2, w1, c2]
      rw [ih _ _ (by omega) (by omega) (by simp; omega), e, List.append_assoc, List.singleton_append]
theorem impl_natOf_eq {α : Type} (N v : Nat) (k : List Int → Option α) (hv : v < 18446744073709551616) (hN : cap < N) : impl_natOf N (v : Int) k = k (digs v) := by
  have h0 := cap_64
  have h1 : v < 65536 ^ 4 := by omega
  have h2 := digs_len_le h1
  have h3 : v < N := Nat.lt_trans (Nat.lt_of_lt_of_le hv h0) hN
  rw [impl_natOf.eq]
  unfold impl_natOf.b
  rw [impl_natOf_loop N _ N v [] h3 hv (by simp; omega)]
  simp
/-- Top and bottom of a float's value, not in lowest terms. -/
def vTop (w o : Int) : Nat := if 0 ≤ (partOf w o).1.2.2.1 then (partOf w o).1.2.1.toNat * 2 ^ (partOf w o).1.2.2.1.toNat else (partOf w o).1.2.1.toNat
def vBot (w o : Int) : Nat := if 0 ≤ (partOf w o).1.2.2.1 then 1 else 2 ^ (-(partOf w o).1.2.2.1).toNat
def vSgn (w o : Int) : Bool := (partOf w o).1.1
theorem partOf_bounds (w o : Int) : 0 ≤ (partOf w o).1.2.1 ∧ (partOf w o).1.2.1 < 18446744073709551616 ∧ -1074 ≤ (partOf w o).1.2.2.1 ∧ (partOf w o).1.2.2.1 ≤ 1000 := by
  obtain ⟨g1, g2, g3, g4, g5⟩ := frac_great w
  have hp := pow_le_52 g2
  have hp0 : 0 < 2 ^ fracB w := Nat.pow_pos (by omega)
  have hmod : o.natAbs % 2 ^ fracB w < 2 ^ fracB w := Nat.mod_lt _ hp0
  unfold partOf
  split
  · rename_i h
    obtain ⟨hw, b1, b2⟩ := bitOk_w h.1
    have hq : o.natAbs / 2 ^ fracB w ≤ (2 * greatB w + 1).toNat := by
      have ht := top_eq hw
      have : o.natAbs ≤ (2 * greatB w + 1).toNat * 2 ^ fracB w := by omega
      have := Nat.div_le_div_right (c := 2 ^ fracB w) this
      rwa [Nat.mul_div_cancel _ hp0] at this
    have hG : greatB w = 127 ∧ leastB w = -149 ∨ greatB w = 1023 ∧ leastB w = -1074 := by unfold greatB leastB; split <;> simp
    generalize o.natAbs % 2 ^ fracB w = f at *
    generalize o.natAbs / 2 ^ fracB w = e at *
    split
    · simp only; omega
    · simp only; omega
  · simp only; omega
theorem vBot_pos (w o : Int) : vBot w o ≠ 0 := by
  unfold vBot
  split
  · omega
  · have := Nat.pow_pos (n := (-(partOf w o).1.2.2.1).toNat) (show 0 < 2 by omega); omega
theorem v_cap (w o : Int) : vTop w o < 65536 ^ 68 ∧ vBot w o < 65536 ^ 68 := by
  obtain ⟨p1, p2, p3, p4⟩ := partOf_bounds w o
  unfold vTop vBot
  generalize (partOf w o).1.2.1 = s at *
  generalize (partOf w o).1.2.2.1 = p at *
  have hs : s.toNat < 65536 ^ 4 := by omega
  constructor
  · split
    · have h2 : 2 ^ p.toNat < 65536 ^ 64 := pow2_cap (by omega)
      exact mul_cap hs h2
    · exact Nat.lt_of_lt_of_le hs (pow_up (by omega))
  · split
    · exact Nat.lt_of_lt_of_le (show 1 < 65536 ^ 1 by omega) (pow_up (by omega))
    · exact pow2_cap (by omega)
theorem cap68 {n : Nat} (h : n < 65536 ^ 68) : n < cap0 := lt_cap0 h (by omega)
theorem vTop_lt (w o : Int) : vTop w o < cap := cap0_lt (cap68 (v_cap w o).1)
theorem vBot_lt (w o : Int) : vBot w o < cap := cap0_lt (cap68 (v_cap w o).2)
theorem spec_l8Of_eq {α : Type} (N : Nat) (w o : Int) (k : Bool → List Int → List Int → Option α) (hN : cap < N) : spec_l8Of N w o k = k (vSgn w o) (digs (vTop w o)) (digs (vBot w o)) := by
  obtain ⟨p1, p2, p3, p4⟩ := partOf_bounds w o
  obtain ⟨c1, c2⟩ := v_cap w o
  rw [spec_l8Of.eq]
  unfold spec_l8Of.b
  simp only [spec_BitPartOf_eq]
  rw [spec_l8Of_J3.eq]
  unfold spec_l8Of_J3.b vTop vBot vSgn at *
  generalize (partOf w o).1 = q at *
  obtain ⟨sg, s, p, un⟩ := q
  simp only at *
  obtain ⟨n, rfl⟩ : ∃ n : Nat, s = n := ⟨s.toNat, by omega⟩
  have hn64 : n < 18446744073709551616 := by omega
  have hnc : n < cap := Nat.lt_of_lt_of_le hn64 cap_64
  rw [spec_NatOf_eq N n _ hn64 hN]
  by_cases h : 0 ≤ p
  · obtain ⟨i, rfl⟩ : ∃ i : Nat, p = i := ⟨p.toNat, by omega⟩
    have hp : 2 ^ i < cap := cap0_lt (pow_lt_cap0 (by omega))
    simp only [decide_true, cond_true, spec_l5Pow2_eq N i _ (show i < 1000000 by omega) hN, spec_l5Mul_eq N n (2 ^ i) _ hnc hp hN, if_true, Int.toNat_natCast, digs1, h]
  · obtain ⟨i, rfl⟩ : ∃ i : Nat, p = -(i : Int) := ⟨p.natAbs, by omega⟩
    have w1 : IntKind.i64.wrap (0 - -(i : Int)) = (i : Int) := by rw [wrap_i64 (by omega) (by omega)]; omega
    have e1 : (- -(i : Int)).toNat = i := by omega
    simp only [h, decide_false, cond_false, w1, spec_l5Pow2_eq N i _ (show i < 1000000 by omega) hN, if_false, Int.toNat_natCast, e1]
def valF (w o : Int) : FracD := (vSgn w o && decide (vTop w o ≠ 0), (digs (vTop w o / Nat.gcd (vTop w o) (vBot w o)), (digs (vBot w o / Nat.gcd (vTop w o) (vBot w o)), ())))
theorem whole_eq {α : Type} (N : Nat) (s : Bool) (q : Nat) (k : Bool → List Int → List Int → Option α) : impl_whole N s (digs q) k = k (s && decide (q ≠ 0)) (digs q) (digs 1) := by
  rw [impl_whole.eq]
  unfold impl_whole.b
  simp only [len_cast_pos, ← digs1]
  cases s
  · simp only [cond_false, Bool.false_and]
  · simp only [cond_true, Bool.true_and]
theorem impl_value_eq {α : Type} (N : Nat) (w o : Int) (k : FracD → Option α) (hN : cap < N) : impl_value N w o k = k (valF w o) := by
  obtain ⟨p1, p2, p3, p4⟩ := partOf_bounds w o
  obtain ⟨c1, c2⟩ := v_cap w o
  rw [impl_value.eq]
  unfold impl_value.b valF
  simp only [impl_BitPartOf_eq]
  unfold vTop vBot vSgn at *
  generalize (partOf w o).1 = q at *
  obtain ⟨sg, s, p, un⟩ := q
  simp only at *
  obtain ⟨n, rfl⟩ : ∃ n : Nat, s = n := ⟨s.toNat, by omega⟩
  have hn64 : n < 18446744073709551616 := by omega
  have hnc : n < cap := Nat.lt_of_lt_of_le hn64 cap_64
  have hn0 : n < cap0 := lt_cap0 (k := 4) (by omega) (by omega)
  rw [impl_natOf_eq N n _ hn64 hN]
  have h1c : (1 : Nat) < cap := by have := cap_ge; omega
  by_cases h : 0 ≤ p
  · obtain ⟨i, rfl⟩ : ∃ i : Nat, p = i := ⟨p.toNat, by omega⟩
    simp only [decide_true, cond_true, impl_natShift_pos N n i _ hnc (show i < 1000000 by omega) hN, whole_eq, if_true, Int.toNat_natCast, h, Nat.gcd_one_right, Nat.div_one]
  · obtain ⟨i, rfl⟩ : ∃ i : Nat, p = -(i : Int) := ⟨p.natAbs, by omega⟩
    have w1 : IntKind.i64.wrap (0 - -(i : Int)) = (i : Int) := by rw [wrap_i64 (by omega) (by omega)]; omega
    have e1 : (- -(i : Int)).toNat = i := by omega
    have hp : 2 ^ i < cap0 := pow_lt_cap0 (by omega)
    have hp0 : 2 ^ i ≠ 0 := by have := Nat.pow_pos (n := i) (show 0 < 2 by omega); omega
    simp only [h, decide_false, cond_false, w1, ← digs1, impl_natShift_pos N 1 i _ h1c (show i < 1000000 by omega) hN, Nat.one_mul, impl_lowest_eq N sg n (2 ^ i) _ hn0 hp hp0 hN, if_false, Int.toNat_natCast, e1]
theorem spec_l8Cmp_eq {α : Type} (N : Nat) (s t : Bool) (a b c d : Nat) (k : Int → Option α) (ha : a < cap) (hb : b < cap) (hc : c < cap) (hd : d < cap) (h1 : a * d < cap) (h2 : c * b < cap) (hN : cap < N) :
    spec_l8Cmp N (s, (digs a, (digs b, ()))) (t, (digs c, (digs d, ()))) k = k (cmpZ (sgnd s (a * d)) (sgnd t (c * b))) := by
  rw [spec_l8Cmp.eq]
  unfold spec_l8Cmp.b
  simp only [spec_l5Mul_eq N a d _ ha hd hN, spec_l5Mul_eq N c b _ hc hb hN, spec_l5Cmp_eq N _ _ _ h1 h2 hN, spec_l5Cmp_eq N _ _ _ h2 h1 hN, len_cast_zero, len_cast_pos]
  generalize a * d = x
  generalize c * b = y
  have key : ∀ u v : Int, cmpZ u v = if u < v then -1 else if v < u then 1 else 0 := fun u v => rfl
  have kN : ∀ u v : Nat, cmpN u v = if u < v then -1 else if v < u then 1 else 0 := fun u v => rfl
  by_cases hx : x = 0 <;> by_cases hy : y = 0 <;> cases s <;> cases t <;> simp only [hx, hy, decide_true, decide_false, cond_true, cond_false, Ne, not_true_eq_false, not_false_eq_true, sgnd, key, kN, if_true, Bool.false_eq_true, if_false] <;> congr 1 <;> (repeat' split) <;> omega
theorem cmpZ_scale {x y g : Int} (hg : 0 < g) : cmpZ (x * g) (y * g) = cmpZ x y := by
  unfold cmpZ
  by_cases h1 : x < y
  · rw [if_pos h1, if_pos (Int.mul_lt_mul_of_pos_right h1 hg)]
  · by_cases h2 : y < x
    · have := Int.mul_lt_mul_of_pos_right h2 hg
      rw [if_neg h1, if_pos h2, if_neg (by omega), if_pos this]
    · have : x = y := by omega
      subst this
      simp
theorem sgnd_mul (s : Bool) (n g : Nat) : sgnd s (n * g) = sgnd s n * (g : Int) := by
  unfold sgnd
  cases s
  · simp
  · simp only [if_true]; rw [Int.natCast_mul, Int.neg_mul]
theorem sgnd_and (s : Bool) (n d : Nat) : sgnd (s && decide (n ≠ 0)) (n * d) = sgnd s (n * d) := by
  by_cases h : n = 0
  · subst h; cases s <;> simp [sgnd]
  · simp [h]
/-- How a float's value stands to a fraction. -/
def cmpV (w o : Int) (f : FracD) : Int := cmpZ (sgnd (vSgn w o) (vTop w o * (val f.2.2.1).toNat)) (sgnd f.1 ((val f.2.1).toNat * vBot w o))
def cmpV' (w o : Int) (f : FracD) : Int := cmpZ (sgnd f.1 ((val f.2.1).toNat * vBot w o)) (sgnd (vSgn w o) (vTop w o * (val f.2.2.1).toNat))
theorem prod_cap {a b : Nat} (ha : a < 65536 ^ 68) (hb : b < 65536 ^ 256) : a * b < cap := by
  obtain ⟨E, hE⟩ : ∃ E, E = 324 := ⟨_, rfl⟩
  have h := mul_cap ha hb
  rw [show 68 + 256 = E from hE.symm] at h
  exact lt_cap h (by omega)
theorem low_facts (w o : Int) : ∃ a b g : Nat, vTop w o = a * g ∧ vBot w o = b * g ∧ 0 < g ∧ vTop w o / Nat.gcd (vTop w o) (vBot w o) = a ∧ vBot w o / Nat.gcd (vTop w o) (vBot w o) = b ∧ a ≤ vTop w o ∧ b ≤ vBot w o ∧ b ≠ 0 ∧ (vTop w o ≠ 0 ↔ a ≠ 0) := by
  have hb0 := vBot_pos w o
  have hg0 : 0 < Nat.gcd (vTop w o) (vBot w o) := Nat.gcd_pos_of_pos_right _ (Nat.pos_of_ne_zero hb0)
  have e1 := Nat.div_mul_cancel (Nat.gcd_dvd_left (vTop w o) (vBot w o))
  have e2 := Nat.div_mul_cancel (Nat.gcd_dvd_right (vTop w o) (vBot w o))
  have hl1 := Nat.div_le_self (vTop w o) (Nat.gcd (vTop w o) (vBot w o))
  have hl2 := Nat.div_le_self (vBot w o) (Nat.gcd (vTop w o) (vBot w o))
  have hz : vBot w o / Nat.gcd (vTop w o) (vBot w o) ≠ 0 := fun h => by rw [h, Nat.zero_mul] at e2; exact hb0 e2.symm
  refine ⟨_, _, _, e1.symm, e2.symm, hg0, rfl, rfl, hl1, hl2, hz, ⟨fun h h0 => ?_, fun h h0 => ?_⟩⟩
  · rw [h0, Nat.zero_mul] at e1; exact h e1.symm
  · rw [h0, Nat.zero_div] at h; exact h rfl
theorem impl_cmp_value {α : Type} (N : Nat) (w o : Int) (f : FracD) (k : Int → Option α) (hf : fracOkB f = true) (hN : cap < N) : impl_Frac_cmp N (valF w o) f k = k (cmpV w o f) ∧ impl_Frac_cmp N f (valF w o) k = k (cmpV' w o f) := by
  obtain ⟨t, c, d, rfl, hc, hd, hd0, hg', ht⟩ := fracOkB_ex hf
  obtain ⟨v1, v2⟩ := v_cap w o
  obtain ⟨a, b, g, e1, e2, hg, e3, e4, l1, l2, hb0, hz⟩ := low_facts w o
  have hsg : (vSgn w o && decide (vTop w o ≠ 0)) = (vSgn w o && decide (a ≠ 0)) := by
    by_cases h : a = 0
    · have : vTop w o = 0 := Classical.byContradiction fun h2 => hz.1 h2 h
      simp [h, this]
    · have := hz.2 h
      simp [h, this]
  have ha68 : a < 65536 ^ 68 := Nat.lt_of_le_of_lt l1 v1
  have hb68 : b < 65536 ^ 68 := Nat.lt_of_le_of_lt l2 v2
  have ha := cap0_lt (cap68 ha68)
  have hb := cap0_lt (cap68 hb68)
  have hcc := cap0_lt (c256 hc)
  have hdc := cap0_lt (c256 hd)
  have m1 : a * d < cap := prod_cap ha68 hd
  have m2 : c * b < cap := by rw [Nat.mul_comm]; exact prod_cap hb68 hc
  have hsa : (vSgn w o && decide (a ≠ 0)) = true → a ≠ 0 := by
    intro h; simp only [Bool.and_eq_true, decide_eq_true_eq] at h; exact h.2
  have hgi : (0 : Int) < (g : Int) := by omega
  have s1 : sgnd (vSgn w o) (vTop w o * d) = sgnd (vSgn w o && decide (a ≠ 0)) (a * d) * (g : Int) := by
    rw [sgnd_and, ← sgnd_mul, e1]; congr 1; rw [Nat.mul_right_comm]
  have s2 : sgnd t (c * vBot w o) = sgnd t (c * b) * (g : Int) := by
    rw [← sgnd_mul, e2, Nat.mul_assoc]
  unfold valF cmpV cmpV'
  rw [e3, e4, hsg]
  simp only [val_digs, Int.toNat_natCast]
  rw [s1, s2, cmpZ_scale hgi, cmpZ_scale hgi]
  exact ⟨impl_Frac_cmp_eq N _ t a b c d k ha hb hcc hdc m1 m2 hb0 hd0 hsa ht hN, impl_Frac_cmp_eq N t _ c d a b k hcc hdc ha hb m2 m1 hd0 hb0 ht hsa hN⟩
def pairHas (w : Int) (p : PairD) (f : FracD) : Bool := pairOk w p && fracOkB f && (decide (p.1 = -top w) || decide (cmpV w p.1 f ≤ 0)) && (decide (p.2.1 = top w) || decide (cmpV' w p.2.1 f ≤ 0))
theorem impl_PairHas_eq {α : Type} (N : Nat) (w : Int) (p : PairD) (f : FracD) (k : Bool → Option α) (hN : cap < N) : impl_PairHas N w p f k = k (pairHas w p f) := by
  rw [impl_PairHas.eq]
  unfold impl_PairHas.b pairHas
  simp only [impl_PairOk_eq, impl_FracOk_eq N _ _ hN, impl_BitTop_eq, wrap_neg_top]
  cases h1 : pairOk w p
  · simp
  cases h2 : fracOkB f
  · simp
  simp only [impl_value_eq N _ _ _ hN, (impl_cmp_value N w _ f _ h2 hN).1, (impl_cmp_value N w _ f _ h2 hN).2]
  by_cases h3 : p.1 = -top w <;> by_cases h4 : p.2.1 = top w <;> by_cases h5 : cmpV w p.1 f ≤ 0 <;> by_cases h6 : cmpV' w p.2.1 f ≤ 0 <;> simp [h3, h4, h5, h6] <;> simp_all
theorem impl_SpanHas_eq {α : Type} (N : Nat) (w : Int) (p : Bool × Int × Int × Unit) (f : FracD) (k : Bool → Option α) (hN : cap < N) : impl_SpanHas N w p f k = k (p.1 && pairHas w (p.2.1, (p.2.2.1, ())) f) := by
  rw [impl_SpanHas.eq]
  unfold impl_SpanHas.b
  simp only [impl_PairHas_eq N _ _ _ _ hN]
  cases p.1 <;> simp
theorem laws_toSpan_eq {α : Type} (N : Nat) (p : Bool × Int × Int × Unit) (k : (Bool × Int × Int × Unit) → Option α) : laws_toSpan N p k = k p := by
  rw [laws_toSpan.eq]; rfl
end Go.Proofs.YtlbihmicbncdiaaAm
