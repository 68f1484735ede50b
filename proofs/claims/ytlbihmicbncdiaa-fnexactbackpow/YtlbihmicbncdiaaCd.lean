/-
  Roots of floats: what both texts search; the law of the square root.
-/
import Derived.Test.YtlbihmicbncdiaaCc
namespace Go.Proofs.YtlbihmicbncdiaaAm
open Go
set_option linter.unusedVariables false
set_option linter.unusedSimpArgs false

/-- How the power of a float from 0 on stands to a float from 0 on. -/
def cmpP (w : Int) (n : Nat) (m a : Int) : Int := cmpZ ((vTop w m ^ n * vBot w a : Nat) : Int) ((vTop w a * vBot w m ^ n : Nat) : Int)
def above (w : Int) (n : Nat) (a m : Int) : Bool := decide (0 < cmpP w n m a)
theorem vSgn_nn {w o : Int} (h : 0 ≤ o) : vSgn w o = false := by
  unfold vSgn partOf
  have : ¬ o < 0 := by omega
  split
  · split <;> simp [this]
  · rfl
theorem val_nn {w o : Int} (h : 0 ≤ o) : ∃ a b g : Nat, valF w o = (false, (digs a, (digs b, ()))) ∧ vTop w o = a * g ∧ vBot w o = b * g ∧ 0 < g ∧ b ≠ 0 ∧ a < 65536 ^ 68 ∧ b < 65536 ^ 68 := by
  obtain ⟨v1, v2⟩ := v_cap w o
  obtain ⟨a, b, g, e1, e2, hg, e3, e4, l1, l2, hb0, hz⟩ := low_facts w o
  refine ⟨a, b, g, ?_, e1, e2, hg, hb0, Nat.lt_of_le_of_lt l1 v1, Nat.lt_of_le_of_lt l2 v2⟩
  unfold valF
  rw [e3, e4, vSgn_nn h, Bool.false_and]
theorem cmpZ_pos {x y : Int} : 0 < cmpZ x y ↔ y < x := by
  unfold cmpZ
  by_cases h1 : x < y
  · rw [if_pos h1]; omega
  · rw [if_neg h1]
    by_cases h2 : y < x
    · rw [if_pos h2]; omega
    · rw [if_neg h2]; omega
theorem cmpP_zero {w a : Int} {n : Nat} (h1 : 1 ≤ n) : above w n a 0 = false := by
  have h0 : vTop w 0 = 0 := by
    have hs : (partOf w 0).1.2.1 = 0 := by
      unfold partOf
      split
      · rw [if_pos (by simp)]
        simp
      · rfl
    unfold vTop
    rw [hs]
    split <;> simp
  unfold above cmpP
  rw [h0, Nat.zero_pow (by omega), Nat.zero_mul]
  simp only [decide_eq_false_iff_not]
  rw [cmpZ_pos]
  omega
def mid (lo hi : Int) : Int := lo + (hi - lo + 1) / 2
def srch (P : Int → Bool) : Nat → Int → Int → Int
  | 0, lo, _ => lo
  | f + 1, lo, hi => if lo < hi then (if P (mid lo hi) = true then srch P f lo (mid lo hi - 1) else srch P f (mid lo hi) hi) else lo
theorem mid_facts {lo hi : Int} (h : lo < hi) : lo < mid lo hi ∧ mid lo hi ≤ hi ∧ hi - (hi - lo) / 2 = mid lo hi := by
  unfold mid; omega
theorem srch_ok (P : Int → Bool) : ∀ (f : Nat) (lo hi : Int), P lo = false → lo ≤ hi → P (srch P f lo hi) = false ∧ lo ≤ srch P f lo hi ∧ srch P f lo hi ≤ hi
  | 0, lo, hi, h, hl => ⟨h, Int.le_refl _, hl⟩
  | f + 1, lo, hi, h, hl => by
    unfold srch
    by_cases hlt : lo < hi
    · obtain ⟨m1, m2, _⟩ := mid_facts hlt
      rw [if_pos hlt]
      by_cases hp : P (mid lo hi) = true
      · rw [if_pos hp]
        obtain ⟨a, b, c⟩ := srch_ok P f lo (mid lo hi - 1) h (by omega)
        exact ⟨a, b, by omega⟩
      · rw [if_neg hp]
        obtain ⟨a, b, c⟩ := srch_ok P f (mid lo hi) hi (by simpa using hp) (by omega)
        exact ⟨a, by omega, c⟩
    · rw [if_neg hlt]
      exact ⟨h, Int.le_refl _, hl⟩
def rootF (N : Nat) (w : Int) (n : Nat) (a : Int) : Int := srch (above w n a) N 0 (top w - 1)
def dnP (N : Nat) (w : Int) (n : Nat) (a : Int) : Int := if a = top w then a else rootF N w n a
def upP (N : Nat) (w : Int) (n : Nat) (a : Int) : Int := if a = top w then a else if cmpP w n (rootF N w n a) a = 0 then rootF N w n a else rootF N w n a + 1
def rootDn (N : Nat) (w : Int) (n : Nat) (a : Int) : Int := if a < 0 then -upP N w n (-a) else dnP N w n a
def rootUp (N : Nat) (w : Int) (n : Nat) (a : Int) : Int := if a < 0 then -dnP N w n (-a) else upP N w n a
theorem top_w {w : Int} (hw : w = 32 ∨ w = 64) : 2139095040 ≤ top w ∧ top w ≤ 9218868437227405312 := by
  rcases hw with rfl | rfl <;> decide
theorem rootF_ok {N : Nat} {w : Int} {n : Nat} {a : Int} (hw : w = 32 ∨ w = 64) (h1 : 1 ≤ n) : above w n a (rootF N w n a) = false ∧ 0 ≤ rootF N w n a ∧ rootF N w n a ≤ top w - 1 := by
  have := top_w hw
  exact srch_ok (above w n a) N 0 (top w - 1) (cmpP_zero h1) (by omega)
theorem up_bounds {N : Nat} {w : Int} {n : Nat} {a : Int} (hw : w = 32 ∨ w = 64) (h1 : 1 ≤ n) (h0 : 0 ≤ a) (ha : a ≤ top w) : 0 ≤ upP N w n a ∧ upP N w n a ≤ top w ∧ 0 ≤ dnP N w n a ∧ dnP N w n a ≤ top w := by
  obtain ⟨_, r1, r2⟩ := rootF_ok (N := N) (a := a) hw h1
  unfold upP dnP
  split
  · omega
  · split <;> omega
theorem spec_l9Infinite_eq {α : Type} (N : Nat) (w a : Int) (k : Bool → Option α) : spec_l9Infinite N w a k = k (decide (a = top w) || decide (a = -top w)) := by
  rw [spec_l9Infinite.eq]
  unfold spec_l9Infinite.b
  simp only [spec_BitTop_eq, wrap_neg_top]
  by_cases h : a = top w <;> simp [h]
theorem spec_cmpP {α : Type} (N : Nat) (w m a : Int) (n : Nat) (k : Int → Option α) (hm : 0 ≤ m) (h1 : 1 ≤ n) (hn : n ≤ 8) (hN : cap < N) :
    spec_l8Cmp N (false && oddB n, (digs (vTop w m ^ n), (digs (vBot w m ^ n), ()))) (false, (digs (vTop w a), (digs (vBot w a), ()))) k = k (cmpP w n m a) := by
  obtain ⟨m1, m2⟩ := v_cap w m
  obtain ⟨a1, a2⟩ := v_cap w a
  rw [spec_l8Cmp_eq N _ _ _ _ _ _ k (pw_lt m1 hn) (pw_lt m2 hn) (vTop_lt w a) (vBot_lt w a) (pw_mul m1 a2 hn) (by rw [Nat.mul_comm]; exact pw_mul m2 a1 hn) hN]
  simp only [Bool.false_and, sgnd, Bool.false_eq_true, if_false]; rfl
theorem rootSize_J8 {α : Type} (N : Nat) (w lo hi m a : Int) (n : Nat) (k : Int → Int → Int → Int → Bool → List Int → List Int → Option α) (hm : 0 ≤ m) (hm2 : m ≤ 9218868437227405312) (h1 : 1 ≤ n) (hn : n ≤ 8) (hN : cap < N) :
    spec_l9RootSize_J8 N w (n : Int) lo hi m false (digs (vTop w a)) (digs (vBot w a)) k = if above w n a m = true then k w (n : Int) lo (m - 1) false (digs (vTop w a)) (digs (vBot w a)) else k w (n : Int) m hi false (digs (vTop w a)) (digs (vBot w a)) := by
  obtain ⟨m1, m2⟩ := v_cap w m
  have w1 : IntKind.i64.wrap (m - 1) = m - 1 := wrap_i64 (by omega) (by omega)
  rw [spec_l9RootSize_J8.eq]
  unfold spec_l9RootSize_J8.b above
  simp only [spec_l8Of_eq N w m _ hN, vSgn_nn hm, spec_l9Power_eq N _ _ _ n m1 m2 h1 hn hN, spec_cmpP N w m a n _ hm h1 hn hN, w1]
  by_cases h : 0 < cmpP w n m a
  · have c : ¬ cmpP w n m a ≤ 0 := by omega
    simp only [h, c, decide_true, decide_false, cond_false, if_true]
  · have c : cmpP w n m a ≤ 0 := by omega
    simp only [h, c, decide_true, decide_false, cond_true, Bool.false_eq_true, if_false]
theorem rootSize_loop {α : Type} (N : Nat) (w a : Int) (n : Nat) (h1 : 1 ≤ n) (hn : n ≤ 8) (hN : cap < N) (k : Int → Int → Int → Bool → List Int → List Int → Option α) : ∀ (f : Nat) (lo hi : Int), 0 ≤ lo → hi ≤ 9218868437227405312 → (hi - lo).toNat < f →
    spec_l9RootSize_L0 N f w (n : Int) lo hi false (digs (vTop w a)) (digs (vBot w a)) k = k w (n : Int) (srch (above w n a) f lo hi) false (digs (vTop w a)) (digs (vBot w a)) := by
  intro f
  induction f with
  | zero => intro lo hi _ _ h; omega
  | succ f ih =>
    intro lo hi hl hh hf
    rw [spec_l9RootSize_L0.succ]
    unfold spec_l9RootSize_L0r srch
    by_cases hlt : lo < hi
    · obtain ⟨m1, m2, m3⟩ := mid_facts hlt
      have w1 : IntKind.i64.wrap (hi - lo) = hi - lo := wrap_i64 (by omega) (by omega)
      have t1 : Int.tdiv (hi - lo) 2 = (hi - lo) / 2 := Int.tdiv_eq_ediv_of_nonneg (by omega)
      have w2 : IntKind.i64.wrap ((hi - lo) / 2) = (hi - lo) / 2 := wrap_i64 (by omega) (by omega)
      have w3 : IntKind.i64.wrap (hi - (hi - lo) / 2) = mid lo hi := by rw [m3]; exact wrap_i64 (by omega) (by omega)
      simp only [hlt, decide_true, cond_true, w1, t1, w2, w3, if_true, rootSize_J8 N w lo hi (mid lo hi) a n _ (show 0 ≤ mid lo hi by omega) (show mid lo hi ≤ 9218868437227405312 by omega) h1 hn hN]
      by_cases hp : above w n a (mid lo hi) = true
      · simp only [hp, if_true]
        exact ih lo (mid lo hi - 1) hl (by omega) (by omega)
      · simp only [hp, Bool.false_eq_true, if_false]
        exact ih (mid lo hi) hi (by omega) hh (by omega)
    · simp only [hlt, decide_false, cond_false, if_false]
theorem spec_l9RootSize_eq {α : Type} (N : Nat) (w a : Int) (n : Nat) (hw : w = 32 ∨ w = 64) (h0 : 0 ≤ a) (ha : a ≤ top w) (h1 : 1 ≤ n) (hn : n ≤ 8) (hN : cap < N) (k : Int → Bool → Option α) :
    spec_l9RootSize N w a (n : Int) k = if a = top w then k a false else k (rootF N w n a) (decide (cmpP w n (rootF N w n a) a < 0)) := by
  have hNN := cap_N hN
  have hN64 : 18446744073709551616 < N := Nat.lt_of_le_of_lt cap_64 hN
  obtain ⟨t1, t2⟩ := top_w hw
  rw [spec_l9RootSize.eq]
  unfold spec_l9RootSize.b
  simp only [spec_l9Infinite_eq]
  by_cases hi : a = top w
  · simp [hi]
  · have c : ¬ a = -top w := by omega
    have w1 : IntKind.i64.wrap (top w - 1) = top w - 1 := wrap_i64 (by omega) (by omega)
    obtain ⟨r0, r1, r2⟩ := rootF_ok (N := N) (a := a) hw h1
    obtain ⟨m1, m2⟩ := v_cap w (rootF N w n a)
    simp only [hi, c, decide_false, Bool.or_self, cond_false, spec_l8Of_eq N w a _ hN, vSgn_nn h0, spec_BitTop_eq, w1, if_false]
    refine (rootSize_loop N w a n h1 hn hN _ N 0 (top w - 1) (by omega) (by omega) (by omega)).trans ?_
    show spec_l8Of N w (rootF N w n a) _ = _
    simp only [spec_l8Of_eq N w (rootF N w n a) _ hN, vSgn_nn r1, spec_l9Power_eq N _ _ _ n m1 m2 h1 hn hN, spec_cmpP N w (rootF N w n a) a n _ r1 h1 hn hN]
    rfl
theorem spec_up_ok {N : Nat} {w a : Int} {n : Nat} (hw : w = 32 ∨ w = 64) (h1 : 1 ≤ n) (r : a ≠ top w) : (if decide (cmpP w n (rootF N w n a) a < 0) = true then rootF N w n a + 1 else rootF N w n a) = upP N w n a := by
  obtain ⟨r0, _, _⟩ := rootF_ok (N := N) (a := a) hw h1
  unfold above at r0
  simp only [decide_eq_false_iff_not] at r0
  unfold upP
  rw [if_neg r]
  by_cases h : cmpP w n (rootF N w n a) a = 0
  · simp [h]
  · have : cmpP w n (rootF N w n a) a < 0 := by omega
    simp [h, this]
theorem spec_rootUp_part {α : Type} (N : Nat) (w a : Int) (n : Nat) (hw : w = 32 ∨ w = 64) (h0 : 0 ≤ a) (ha : a ≤ top w) (h1 : 1 ≤ n) (hn : n ≤ 8) (hN : cap < N) (k : Int → Option α) : spec_l9RootUp N w a (n : Int) k = k (upP N w n a) := by
  obtain ⟨t1, t2⟩ := top_w hw
  obtain ⟨r0, r1, r2⟩ := rootF_ok (N := N) (a := a) hw h1
  have c : ¬ a < 0 := by omega
  rw [spec_l9RootUp.eq]
  unfold spec_l9RootUp.b
  simp only [c, decide_false, cond_false, spec_l9RootSize_eq N w a n hw h0 ha h1 hn hN]
  by_cases h : a = top w
  · rw [if_pos h, spec_l9RootUp_J4.eq]
    unfold spec_l9RootUp_J4.b upP
    rw [if_pos h]; rfl
  · have w1 : IntKind.i64.wrap (rootF N w n a + 1) = rootF N w n a + 1 := wrap_i64 (by omega) (by omega)
    rw [if_neg h, spec_l9RootUp_J4.eq]
    unfold spec_l9RootUp_J4.b
    rw [w1, ← spec_up_ok hw h1 h]
    cases decide (cmpP w n (rootF N w n a) a < 0) <;> simp
theorem spec_l9RootDown_eq {α : Type} (N : Nat) (w a : Int) (n : Nat) (hw : w = 32 ∨ w = 64) (h0 : -top w ≤ a) (ha : a ≤ top w) (h1 : 1 ≤ n) (hn : n ≤ 8) (hN : cap < N) (k : Int → Option α) : spec_l9RootDown N w a (n : Int) k = k (rootDn N w n a) := by
  obtain ⟨t1, t2⟩ := top_w hw
  rw [spec_l9RootDown.eq]
  unfold spec_l9RootDown.b rootDn
  by_cases c : a < 0
  · have w1 : IntKind.i64.wrap (0 - a) = -a := by rw [wrap_i64 (by omega) (by omega)]; omega
    obtain ⟨u1, u2, _, _⟩ := up_bounds (N := N) (a := -a) hw h1 (by omega) (by omega)
    have w2 : IntKind.i64.wrap (0 - upP N w n (-a)) = -upP N w n (-a) := by rw [wrap_i64 (by omega) (by omega)]; omega
    simp only [c, decide_true, cond_true, w1, spec_rootUp_part N w (-a) n hw (show 0 ≤ -a by omega) (show -a ≤ top w by omega) h1 hn hN, w2, if_true]
  · simp only [c, decide_false, cond_false, spec_l9RootSize_eq N w a n hw (show 0 ≤ a by omega) ha h1 hn hN, if_false]
    unfold dnP
    by_cases h : a = top w
    · rw [if_pos h, if_pos h]
    · rw [if_neg h, if_neg h]
theorem spec_l9RootUp_eq {α : Type} (N : Nat) (w a : Int) (n : Nat) (hw : w = 32 ∨ w = 64) (h0 : -top w ≤ a) (ha : a ≤ top w) (h1 : 1 ≤ n) (hn : n ≤ 8) (hN : cap < N) (k : Int → Option α) : spec_l9RootUp_b N w a (n : Int) k = k (rootUp N w n a) := by
  obtain ⟨t1, t2⟩ := top_w hw
  rw [spec_l9RootUp_b.eq]
  unfold spec_l9RootUp_b.b rootUp
  by_cases c : a < 0
  · have w1 : IntKind.i64.wrap (0 - a) = -a := by rw [wrap_i64 (by omega) (by omega)]; omega
    obtain ⟨_, _, u1, u2⟩ := up_bounds (N := N) (a := -a) hw h1 (by omega) (by omega)
    have w2 : IntKind.i64.wrap (0 - dnP N w n (-a)) = -dnP N w n (-a) := by rw [wrap_i64 (by omega) (by omega)]; omega
    have hd : rootDn N w n (-a) = dnP N w n (-a) := by unfold rootDn; rw [if_neg (by omega)]
    simp only [c, decide_true, cond_true, w1, spec_l9RootDown_eq N w (-a) n hw (show -top w ≤ -a by omega) (show -a ≤ top w by omega) h1 hn hN, hd, w2, if_true]
  · obtain ⟨r0, r1, r2⟩ := rootF_ok (N := N) (a := a) hw h1
    simp only [c, decide_false, cond_false, spec_l9RootSize_eq N w a n hw (show 0 ≤ a by omega) ha h1 hn hN, if_false]
    by_cases h : a = top w
    · rw [if_pos h, spec_l9RootUp_b_J4.eq]
      unfold spec_l9RootUp_b_J4.b upP
      rw [if_pos h]; rfl
    · have w1 : IntKind.i64.wrap (rootF N w n a + 1) = rootF N w n a + 1 := wrap_i64 (by omega) (by omega)
      rw [if_neg h, spec_l9RootUp_b_J4.eq]
      unfold spec_l9RootUp_b_J4.b
      rw [w1, ← spec_up_ok hw h1 h]
      cases decide (cmpP w n (rootF N w n a) a < 0) <;> simp
theorem impl_cmpP {α : Type} (N : Nat) (w m a : Int) (n : Nat) (k : Int → Option α) (hm : 0 ≤ m) (ha : 0 ≤ a) (hn : n ≤ 8) (hN : cap < N) :
    impl_Frac_pow N (valF w m) (n : Int) (fun p => impl_Frac_cmp N p (valF w a) k) = k (cmpP w n m a) := by
  obtain ⟨c, d, g, e1, e2, e3, hg, hd0, hc, hd⟩ := val_nn (w := w) hm
  obtain ⟨a1, b1, h, f1, f2, f3, hh, hb0, ha1, hb1⟩ := val_nn (w := w) ha
  have hdn : d ^ n ≠ 0 := by have := Nat.pow_pos (n := n) (Nat.pos_of_ne_zero hd0); omega
  rw [e1, f1, Frac_pow_small N false c d n hc hd hn hN, Bool.false_and, impl_Frac_cmp_eq N false false _ _ _ _ k (pw_lt hc hn) (pw_lt hd hn) (cap0_lt (cap68 ha1)) (cap0_lt (cap68 hb1)) (pw_mul hc hb1 hn) (by rw [Nat.mul_comm]; exact pw_mul hd ha1 hn) hdn hb0 (by simp) (by simp) hN]
  congr 1
  unfold cmpP
  have hG : (0 : Int) < ((g ^ n * h : Nat) : Int) := by
    have := Nat.mul_pos (Nat.pow_pos (n := n) hg) hh
    omega
  have x1 : ((vTop w m ^ n * vBot w a : Nat) : Int) = ((c ^ n * b1 : Nat) : Int) * ((g ^ n * h : Nat) : Int) := by
    rw [← Int.natCast_mul, e2, f3, Nat.mul_pow]; congr 1; ac_rfl
  have x2 : ((vTop w a * vBot w m ^ n : Nat) : Int) = ((a1 * d ^ n : Nat) : Int) * ((g ^ n * h : Nat) : Int) := by
    rw [← Int.natCast_mul, f2, e3, Nat.mul_pow]; congr 1; ac_rfl
  rw [x1, x2, cmpZ_scale hG]
  rfl
theorem val_scale (w m : Int) (K : Nat) (hK : 0 ≤ (partOf w m).1.2.2.1 + (K : Int)) : vTop w m * 2 ^ K = (partOf w m).1.2.1.toNat * 2 ^ ((partOf w m).1.2.2.1 + (K : Int)).toNat * vBot w m := by
  unfold vTop vBot
  generalize (partOf w m).1.2.1.toNat = s
  generalize (partOf w m).1.2.2.1 = p at *
  by_cases h : 0 ≤ p
  · rw [if_pos h, if_pos h, Nat.mul_one, show (p + (K : Int)).toNat = p.toNat + K by omega, Nat.pow_add, Nat.mul_assoc]
  · rw [if_neg h, if_neg h, Nat.mul_assoc, ← Nat.pow_add, show (p + (K : Int)).toNat + (-p).toNat = K by omega]
theorem part_size {w m : Int} (hw : w = 32 ∨ w = 64) (h1 : 1 ≤ m) (h2 : m < top w) : (partOf w m).1.2.1 ≠ 0 := by
  have hp0 : 0 < 2 ^ fracB w := Nat.pow_pos (by omega)
  have hok : bitOk w m = true ∧ m ≠ top w ∧ m ≠ -top w := by
    refine ⟨?_, by omega, by omega⟩
    simp only [bitOk, Bool.and_eq_true, decide_eq_true_eq]
    exact ⟨⟨hw, by omega⟩, by omega⟩
  unfold partOf
  rw [if_pos hok]
  split
  · rename_i h0
    have := Nat.div_add_mod m.natAbs (2 ^ fracB w)
    rw [h0, Nat.mul_zero] at this
    simp only; omega
  · simp only; omega
theorem above_iff {w m a : Int} {n K s a1 b1 h : Nat} {p : Int} (hs : (partOf w m).1.2.1.toNat = s) (hp : (partOf w m).1.2.2.1 = p) (hK : 0 ≤ p + (K : Int)) (f2 : vTop w a = a1 * h) (f3 : vBot w a = b1 * h) (hh : 0 < h) :
    above w n a m = decide (a1 * (2 ^ K) ^ n < (s * 2 ^ (p + (K : Int)).toNat) ^ n * b1) := by
  have hv := val_scale w m K (by rw [hp]; exact hK)
  rw [hs, hp] at hv
  generalize s * 2 ^ (p + (K : Int)).toNat = C at *
  have hB := Nat.pos_of_ne_zero (vBot_pos w m)
  have hG1 : (0 : Int) < (((2 ^ K) ^ n : Nat) : Int) := by
    have := Nat.pow_pos (n := n) (Nat.pow_pos (n := K) (show 0 < 2 by omega)); omega
  have hG2 : (0 : Int) < ((vBot w m ^ n * h : Nat) : Int) := by
    have := Nat.mul_pos (Nat.pow_pos (n := n) hB) hh; omega
  have x1 : ((vTop w m ^ n * vBot w a : Nat) : Int) * (((2 ^ K) ^ n : Nat) : Int) = ((C ^ n * b1 : Nat) : Int) * ((vBot w m ^ n * h : Nat) : Int) := by
    rw [← Int.natCast_mul, ← Int.natCast_mul, f3]
    congr 1
    have : vTop w m ^ n * (b1 * h) * (2 ^ K) ^ n = (vTop w m * 2 ^ K) ^ n * (b1 * h) := by rw [Nat.mul_pow]; ac_rfl
    rw [this, hv, Nat.mul_pow]; ac_rfl
  have x2 : ((vTop w a * vBot w m ^ n : Nat) : Int) * (((2 ^ K) ^ n : Nat) : Int) = ((a1 * (2 ^ K) ^ n : Nat) : Int) * ((vBot w m ^ n * h : Nat) : Int) := by
    rw [← Int.natCast_mul, ← Int.natCast_mul, f2]; congr 1; ac_rfl
  have key : cmpP w n m a = cmpZ ((C ^ n * b1 : Nat) : Int) ((a1 * (2 ^ K) ^ n : Nat) : Int) := by
    unfold cmpP
    rw [← cmpZ_scale hG1, x1, x2, cmpZ_scale hG2]
  unfold above
  rw [key]
  simp only [cmpZ_pos, Int.ofNat_lt]
theorem impl_powerAbove_eq {α : Type} (N : Nat) (w m a : Int) (n : Nat) (hw : w = 32 ∨ w = 64) (hm : 1 ≤ m) (hm2 : m < top w) (ha : 0 ≤ a) (h1 : 1 ≤ n) (hn : n ≤ 8) (hN : cap < N) (k : Bool → Option α) :
    impl_powerAbove N w m (n : Int) (valF w a) k = k (above w n a m) := by
  obtain ⟨p1, p2, p3, p4⟩ := partOf_bounds w m
  have hs0 := part_size hw hm hm2
  obtain ⟨a1, b1, h, f1, f2, f3, hh, hb0, ha1, hb1⟩ := val_nn (w := w) ha
  have hcmp := fun K => impl_cmpP (α := α) N w m a n K (by omega) ha hn hN
  rw [f1] at hcmp
  rw [impl_powerAbove.eq]
  unfold impl_powerAbove.b
  rw [f1]
  simp only [impl_BitPartOf_eq, impl_value_eq N w m _ hN]
  obtain ⟨s, hs⟩ : ∃ s : Nat, (partOf w m).1.2.1 = (s : Int) := ⟨(partOf w m).1.2.1.toNat, by omega⟩
  obtain ⟨p, hp⟩ : ∃ p, (partOf w m).1.2.2.1 = p := ⟨_, rfl⟩
  rw [hs] at p1 p2 hs0
  rw [hp] at p3 p4
  rw [hs, hp]
  have hsc : s < cap := Nat.lt_of_lt_of_le (show s < 18446744073709551616 by omega) cap_64
  have ac := cap0_lt (cap68 ha1)
  have bc := cap0_lt (cap68 hb1)
  obtain ⟨j, ej, j1, j2⟩ := nbits_ge (a := s) (by omega)
  obtain ⟨jb, ejb, jb1, jb2⟩ := nbits_ge hb0
  have hj64 : j < 64 := pow_lt_of (Nat.lt_of_le_of_lt j1 (show s < 2 ^ 64 by omega))
  have na := nbits_le (a := a1) (by have := digs_len_le ha1; omega)
  have nb := nbits_le (a := b1) (by have := digs_len_le hb1; omega)
  simp only [impl_natOf_eq N s _ (show s < 18446744073709551616 by omega) hN, impl_natBits_eq N s _ hsc hN, impl_natBits_eq N a1 _ ac hN, impl_natBits_eq N b1 _ bc hN, len_cast_zero]
  have w1 : IntKind.i64.wrap (((nbits s : Nat) : Int) - 1) = (j : Int) := by rw [wrap_i64 (by omega) (by omega)]; omega
  have w2 : IntKind.i64.wrap ((j : Int) + p) = (j : Int) + p := wrap_i64 (by omega) (by omega)
  have hX : -20000 ≤ (n : Int) * ((j : Int) + p) ∧ (n : Int) * ((j : Int) + p) ≤ 20000 := by
    have : n = 1 ∨ n = 2 ∨ n = 3 ∨ n = 4 ∨ n = 5 ∨ n = 6 ∨ n = 7 ∨ n = 8 := by omega
    rcases this with rfl | rfl | rfl | rfl | rfl | rfl | rfl | rfl <;> omega
  have w3 : IntKind.i64.wrap ((n : Int) * ((j : Int) + p)) = (n : Int) * ((j : Int) + p) := wrap_i64 (by omega) (by omega)
  have w4 : IntKind.i64.wrap (((nbits a1 : Nat) : Int) - ((nbits b1 : Nat) : Int)) = ((nbits a1 : Nat) : Int) - ((nbits b1 : Nat) : Int) := wrap_i64 (by omega) (by omega)
  have w5 : IntKind.i64.wrap (((nbits a1 : Nat) : Int) - ((nbits b1 : Nat) : Int) + 1) = ((nbits a1 : Nat) : Int) - ((nbits b1 : Nat) : Int) + 1 := wrap_i64 (by omega) (by omega)
  have w6 : IntKind.i64.wrap (((nbits a1 : Nat) : Int) - ((nbits b1 : Nat) : Int) - 1) = ((nbits a1 : Nat) : Int) - ((nbits b1 : Nat) : Int) - 1 := wrap_i64 (by omega) (by omega)
  have w7 : IntKind.i64.wrap ((n : Int) * ((j : Int) + p) + (n : Int)) = (n : Int) * ((j : Int) + p) + (n : Int) := wrap_i64 (by omega) (by omega)
  simp only [w1, w2, w3, w4, w5, w6, w7]
  obtain ⟨K, hK⟩ : ∃ K, K = 2000 := ⟨_, rfl⟩
  have hab := above_iff (w := w) (m := m) (a := a) (n := n) (K := K) (s := s) (p := p) (by rw [hs]; rfl) hp (by omega) f2 f3 hh
  obtain ⟨t, ht⟩ : ∃ t : Nat, (p + (K : Int)).toNat = t := ⟨_, rfl⟩
  rw [ht] at hab
  have c1 : 2 ^ (j + t) ≤ s * 2 ^ t := by rw [Nat.pow_add]; exact Nat.mul_le_mul_right _ j1
  have c2 : s * 2 ^ t < 2 ^ (j + t + 1) := by
    rw [show j + t + 1 = j + 1 + t by omega, Nat.pow_add]
    exact (Nat.mul_lt_mul_right (Nat.pow_pos (by omega))).2 j2
  have d1 : 2 ^ ((j + t) * n) ≤ (s * 2 ^ t) ^ n := by rw [Nat.pow_mul]; exact Nat.pow_le_pow_left c1 n
  have d2 : (s * 2 ^ t) ^ n < 2 ^ ((j + t) * n + n) := by
    rw [show (j + t) * n + n = (j + t + 1) * n by rw [Nat.add_mul (j + t) 1 n, Nat.one_mul], Nat.pow_mul]
    exact Nat.pow_lt_pow_left c2 (by omega)
  have hX2 : (n : Int) * ((j : Int) + p) = (((j + t) * n : Nat) : Int) - ((K * n : Nat) : Int) := by
    have e : (j : Int) + p = ((j + t : Nat) : Int) - (K : Int) := by omega
    rw [e, Int.natCast_mul, Int.natCast_mul, Int.mul_sub, Int.mul_comm (n : Int), Int.mul_comm (n : Int)]
  have hKn : (2 ^ K) ^ n = 2 ^ (K * n) := (Nat.pow_mul 2 K n).symm
  rw [hKn] at hab
  generalize (s * 2 ^ t) ^ n = C at *
  generalize (j + t) * n = L at *
  generalize K * n = M at *
  by_cases h0 : a1 = 0
  · have hC : 0 < C * b1 := Nat.mul_pos (Nat.lt_of_lt_of_le (Nat.pow_pos (by omega)) d1) (Nat.pos_of_ne_zero hb0)
    have : above w n a m = true := by rw [hab, h0, Nat.zero_mul]; simpa using hC
    simp only [h0, decide_true, cond_true, this]
  obtain ⟨ja, eja, ja1, ja2⟩ := nbits_ge h0
  have q1 : 2 ^ (ja + M) ≤ a1 * 2 ^ M := by rw [Nat.pow_add]; exact Nat.mul_le_mul_right _ ja1
  have q2 : a1 * 2 ^ M < 2 ^ (ja + 1 + M) := by rw [Nat.pow_add]; exact (Nat.mul_lt_mul_right (Nat.pow_pos (by omega))).2 ja2
  have q3 : 2 ^ (L + jb) ≤ C * b1 := by rw [Nat.pow_add]; exact Nat.mul_le_mul d1 jb1
  have q4 : C * b1 ≤ 2 ^ (L + n + (jb + 1)) := by rw [Nat.pow_add]; exact Nat.mul_le_mul (Nat.le_of_lt d2) (Nat.le_of_lt jb2)
  simp only [h0, decide_false, cond_false]
  by_cases h2 : ((nbits a1 : Nat) : Int) - ((nbits b1 : Nat) : Int) + 1 < (n : Int) * ((j : Int) + p)
  · have hle : 2 ^ (ja + 1 + M) ≤ 2 ^ (L + jb) := Nat.pow_le_pow_right (by omega) (by omega)
    have : above w n a m = true := by rw [hab]; simp only [decide_eq_true_eq]; omega
    simp only [h2, decide_true, cond_true, this]
  · by_cases h3 : (n : Int) * ((j : Int) + p) + (n : Int) < ((nbits a1 : Nat) : Int) - ((nbits b1 : Nat) : Int) - 1
    · have hle : 2 ^ (L + n + (jb + 1)) ≤ 2 ^ (ja + M) := Nat.pow_le_pow_right (by omega) (by omega)
      have : above w n a m = false := by rw [hab]; simp only [decide_eq_false_iff_not]; omega
      simp only [h2, h3, decide_true, decide_false, cond_true, cond_false, this]
    · simp only [h2, h3, decide_false, cond_false]
      exact hcmp _
theorem impl_root_loop {α : Type} (N : Nat) (w a : Int) (n : Nat) (hw : w = 32 ∨ w = 64) (ha : 0 ≤ a) (h1 : 1 ≤ n) (hn : n ≤ 8) (hN : cap < N) (k : Int → Int → Int → FracD → Option α) : ∀ (f : Nat) (lo hi : Int), 0 ≤ lo → hi < top w → (hi - lo).toNat < f →
    impl_root_L0 N f w (n : Int) lo hi (valF w a) k = k w (n : Int) (srch (above w n a) f lo hi) (valF w a) := by
  obtain ⟨t1, t2⟩ := top_w hw
  intro f
  induction f with
  | zero => intro lo hi _ _ h; omega
  | succ f ih =>
    intro lo hi hl hh hf
    rw [impl_root_L0.succ]
    unfold impl_root_L0r srch
    by_cases hlt : lo < hi
    · obtain ⟨m1, m2, m3⟩ := mid_facts hlt
      have w1 : IntKind.i64.wrap (hi - lo) = hi - lo := wrap_i64 (by omega) (by omega)
      have w2 : IntKind.i64.wrap (hi - lo + 1) = hi - lo + 1 := wrap_i64 (by omega) (by omega)
      have s1 : Int.tdiv (hi - lo + 1) 2 = (hi - lo + 1) / 2 := Int.tdiv_eq_ediv_of_nonneg (by omega)
      have w3 : IntKind.i64.wrap ((hi - lo + 1) / 2) = (hi - lo + 1) / 2 := wrap_i64 (by omega) (by omega)
      have w4 : IntKind.i64.wrap (lo + (hi - lo + 1) / 2) = mid lo hi := wrap_i64 (by omega) (by omega)
      have w5 : IntKind.i64.wrap (mid lo hi - 1) = mid lo hi - 1 := wrap_i64 (by omega) (by omega)
      simp only [hlt, decide_true, cond_true, w1, w2, s1, w3, w4, if_true]
      rw [impl_root_J5.eq]
      unfold impl_root_J5.b
      simp only [impl_powerAbove_eq N w (mid lo hi) a n hw (show 1 ≤ mid lo hi by omega) (show mid lo hi < top w by omega) ha h1 hn hN, w5]
      by_cases hp : above w n a (mid lo hi) = true
      · simp only [hp, cond_true, if_true]
        exact ih lo (mid lo hi - 1) hl (by omega) (by omega)
      · simp only [hp, cond_false, Bool.false_eq_true, if_false]
        exact ih (mid lo hi) hi (by omega) hh (by omega)
    · simp only [hlt, decide_false, cond_false, if_false]
theorem impl_root_eq {α : Type} (N : Nat) (w a : Int) (n : Nat) (hw : w = 32 ∨ w = 64) (h0 : 0 ≤ a) (h1 : 1 ≤ n) (hn : n ≤ 8) (hN : cap < N) (k : Int → Bool → Option α) :
    impl_root N w a (n : Int) k = k (rootF N w n a) (decide (cmpP w n (rootF N w n a) a = 0)) := by
  have hN64 : 18446744073709551616 < N := Nat.lt_of_le_of_lt cap_64 hN
  obtain ⟨t1, t2⟩ := top_w hw
  obtain ⟨r0, r1, r2⟩ := rootF_ok (N := N) (a := a) hw h1
  have w1 : IntKind.i64.wrap (top w - 1) = top w - 1 := wrap_i64 (by omega) (by omega)
  rw [impl_root.eq]
  unfold impl_root.b
  simp only [impl_value_eq N w a _ hN, impl_BitTop_eq, w1]
  refine (impl_root_loop N w a n hw h0 h1 hn hN _ N 0 (top w - 1) (by omega) (by omega) (by omega)).trans ?_
  show impl_value N w (rootF N w n a) _ = _
  rw [impl_value_eq N w (rootF N w n a) _ hN]
  exact impl_cmpP N w (rootF N w n a) a n _ r1 h0 hn hN
theorem impl_rootUp_part {α : Type} (N : Nat) (w a : Int) (n : Nat) (hw : w = 32 ∨ w = 64) (h0 : 0 ≤ a) (h1 : 1 ≤ n) (hn : n ≤ 8) (hN : cap < N) (k : Int → Option α) : impl_rootUp N w a (n : Int) k = k (upP N w n a) := by
  obtain ⟨t1, t2⟩ := top_w hw
  obtain ⟨r0, r1, r2⟩ := rootF_ok (N := N) (a := a) hw h1
  have c : ¬ a < 0 := by omega
  have w1 : IntKind.i64.wrap (rootF N w n a + 1) = rootF N w n a + 1 := wrap_i64 (by omega) (by omega)
  rw [impl_rootUp.eq]
  unfold impl_rootUp.b upP
  simp only [c, decide_false, cond_false, impl_BitTop_eq, impl_root_eq N w a n hw h0 h1 hn hN, impl_rootUp_J6.eq]
  unfold impl_rootUp_J6.b
  by_cases h : a = top w
  · simp [h]
  · by_cases h2 : cmpP w n (rootF N w n a) a = 0 <;> simp [h, h2, w1]
theorem impl_rootDown_eq {α : Type} (N : Nat) (w a : Int) (n : Nat) (hw : w = 32 ∨ w = 64) (h0 : -top w ≤ a) (ha : a ≤ top w) (h1 : 1 ≤ n) (hn : n ≤ 8) (hN : cap < N) (k : Int → Option α) : impl_rootDown N w a (n : Int) k = k (rootDn N w n a) := by
  obtain ⟨t1, t2⟩ := top_w hw
  rw [impl_rootDown.eq]
  unfold impl_rootDown.b rootDn
  by_cases c : a < 0
  · have w1 : IntKind.i64.wrap (0 - a) = -a := by rw [wrap_i64 (by omega) (by omega)]; omega
    obtain ⟨u1, u2, _, _⟩ := up_bounds (N := N) (a := -a) hw h1 (by omega) (by omega)
    have w2 : IntKind.i64.wrap (0 - upP N w n (-a)) = -upP N w n (-a) := by rw [wrap_i64 (by omega) (by omega)]; omega
    simp only [c, decide_true, cond_true, w1, impl_rootUp_part N w (-a) n hw (show 0 ≤ -a by omega) h1 hn hN, w2, if_true]
  · simp only [c, decide_false, cond_false, impl_BitTop_eq, impl_root_eq N w a n hw (show 0 ≤ a by omega) h1 hn hN, if_false]
    unfold dnP
    by_cases h : a = top w <;> simp [h]
theorem impl_rootUp_eq {α : Type} (N : Nat) (w a : Int) (n : Nat) (hw : w = 32 ∨ w = 64) (h0 : -top w ≤ a) (ha : a ≤ top w) (h1 : 1 ≤ n) (hn : n ≤ 8) (hN : cap < N) (k : Int → Option α) : impl_rootUp_b N w a (n : Int) k = k (rootUp N w n a) := by
  obtain ⟨t1, t2⟩ := top_w hw
  rw [impl_rootUp_b.eq]
  unfold impl_rootUp_b.b rootUp
  by_cases c : a < 0
  · have w1 : IntKind.i64.wrap (0 - a) = -a := by rw [wrap_i64 (by omega) (by omega)]; omega
    obtain ⟨_, _, u1, u2⟩ := up_bounds (N := N) (a := -a) hw h1 (by omega) (by omega)
    have w2 : IntKind.i64.wrap (0 - dnP N w n (-a)) = -dnP N w n (-a) := by rw [wrap_i64 (by omega) (by omega)]; omega
    have hd : rootDn N w n (-a) = dnP N w n (-a) := by unfold rootDn; rw [if_neg (by omega)]
    simp only [c, decide_true, cond_true, w1, impl_rootDown_eq N w (-a) n hw (show -top w ≤ -a by omega) (show -a ≤ top w by omega) h1 hn hN, hd, w2, if_true]
  · obtain ⟨r0, r1, r2⟩ := rootF_ok (N := N) (a := a) hw h1
    have w1 : IntKind.i64.wrap (rootF N w n a + 1) = rootF N w n a + 1 := wrap_i64 (by omega) (by omega)
    simp only [c, decide_false, cond_false, impl_BitTop_eq, impl_root_eq N w a n hw (show 0 ≤ a by omega) h1 hn hN, impl_rootUp_b_J6.eq, if_false]
    unfold impl_rootUp_b_J6.b upP
    by_cases h : a = top w
    · simp [h]
    · by_cases h2 : cmpP w n (rootF N w n a) a = 0 <;> simp [h, h2, w1]
def spanRoots (N : Nat) (w : Int) (n : Nat) (s : SpanD) : SpanD := (true, (rootDn N w n s.2.1, (rootUp N w n s.2.2.1, ())))
end Go.Proofs.YtlbihmicbncdiaaAm
