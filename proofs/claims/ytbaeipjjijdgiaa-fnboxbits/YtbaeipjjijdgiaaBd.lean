/-
  From narrow floats to wide ones: the order is kept; what lies next to a wide one.
-/
import Derived.Test.YtbaeipjjijdgiaaBc
namespace Go.Proofs.YtbaeipjjijdgiaaAm
open Go
set_option linter.unusedVariables false
set_option linter.unusedSimpArgs false

/-- The wide float of a narrow one's part. -/
def w0 (s : Nat) (p : Int) : Int := (p + blen s + 1021) * 4503599627370496 + ((s * 2 ^ (53 - blen s) : Nat) : Int)
theorem blen_mul {o z : Nat} (h0 : o ≠ 0) (h : o * 2 ^ z < 2 ^ 64) : blen (o * 2 ^ z) = blen o + z := by
  have hp : 0 < 2 ^ z := Nat.pow_pos (by omega)
  have ho : o < 2 ^ 64 := Nat.lt_of_le_of_lt (Nat.le_mul_of_pos_right o hp) h
  obtain ⟨k, e, a, b⟩ := blen_spec o ho h0
  rw [e, show k + 1 + z = (k + z) + 1 by omega]
  refine blen_of ?_ ?_ h
  · rw [Nat.pow_add]; exact Nat.mul_le_mul_right _ a
  · rw [show k + z + 1 = (k + 1) + z by omega, Nat.pow_add]; exact (Nat.mul_lt_mul_right hp).2 b
theorem mkB64 {s : Nat} {p : Int} (h0 : s ≠ 0) (h1 : s < 16777216) (hp : -149 ≤ p ∧ p ≤ 104) : mkB 64 s p = some (w0 s p) := by
  obtain ⟨o, ho1, ho2, ho3, hz, ho4⟩ := odd_of h0 (show s < 2 ^ 64 by omega)
  unfold mkB
  rw [ho4]
  generalize Go.Lib.ctz 64 s = z at *
  have ho0 : o ≠ 0 := by omega
  have hb : blen s = blen o + z := by rw [ho2]; exact blen_mul ho0 (by omega)
  obtain ⟨L, hL, l1, l2⟩ := blen_spec s (by omega) h0
  have hL24 : L + 1 ≤ 24 := by
    have : 2 ^ L < 2 ^ 24 := Nat.lt_of_le_of_lt l1 (by omega)
    have := pow_lt_of this
    omega
  have e1 : fracB 64 = 52 := rfl
  have e2 : leastB 64 = -1074 := rfl
  have e3 : greatB 64 = 1023 := rfl
  unfold mkO w0
  rw [e1, e2, e3]
  rw [if_neg (by omega), if_pos (by omega)]
  have e4 : o * 2 ^ (52 + 1 - blen o) = s * 2 ^ (53 - blen s) := by
    rw [ho2, Nat.mul_assoc, ← Nat.pow_add]
    rw [ho2] at hb
    rw [hb]
    congr 2
    rw [← ho2] at hb
    omega
  rw [e4]
  congr 1
  have e5 : ((2 ^ 52 : Nat) : Int) = 4503599627370496 := rfl
  rw [e5, hb]
  generalize ((s * 2 ^ (53 - (blen o + z)) : Nat) : Int) = y
  rw [show p + (z : Int) + (blen o : Nat) - 1 + 1023 = (p + ((blen o + z : Nat) : Int) + 1021) + 1 by omega, Int.add_mul]
  omega
/-- The wide float of a narrow one from 0 on. -/
def wideN (o : Nat) : Int := if o = 2139095040 then 9218868437227405312 else if o = 0 then 0 else if o / 8388608 = 0 then w0 o (-149) else w0 (o % 8388608 + 8388608) (-149 + ((o / 8388608 : Nat) : Int) - 1)
theorem widen_top : widenP 2139095040 = 9218868437227405312 := by
  have h : ¬ (bitOk 32 2139095040 = true ∧ (2139095040 : Int) ≠ top 32 ∧ (2139095040 : Int) ≠ -top 32) := fun h => h.2.1 rfl
  unfold widenP partOf
  rw [if_neg h, if_neg (by simp), if_neg (by omega)]
  rfl
theorem widen_nought : widenP 0 = 0 := by
  have h : bitOk 32 0 = true ∧ (0 : Int) ≠ top 32 ∧ (0 : Int) ≠ -top 32 := ⟨ok32 (by omega) (by omega), by rw [show top 32 = 2139095040 from rfl]; omega, by rw [show top 32 = 2139095040 from rfl]; omega⟩
  have e : (0 : Int).natAbs / 2 ^ fracB 32 = 0 := by rw [show (0 : Int).natAbs = 0 from rfl, Nat.zero_div]
  unfold widenP partOf
  rw [if_pos h, if_pos e, if_pos rfl]
  have : ((0 : Int).natAbs % 2 ^ fracB 32 : Nat) = 0 := by rw [show (0 : Int).natAbs = 0 from rfl, Nat.zero_mod]
  have hl : leastB 32 = -149 := rfl
  unfold bitMake
  simp [this, hl]
theorem bitMake_of {s : Nat} {p n : Int} (h0 : s ≠ 0) (hp : -2000 ≤ p ∧ p ≤ 2000) (h : mkB 64 s p = some n) : (bitMake 64 (false, (s : Int), p, ())).1 = n := by
  have c : ¬ ((s : Int) = 0) := by omega
  unfold bitMake
  simp only [hp, c, Int.toNat_natCast, h]
  simp
theorem widenP_nat {o : Nat} (h : o ≤ 2139095040) : widenP (o : Int) = wideN o := by
  unfold wideN
  by_cases h1 : o = 2139095040
  · rw [if_pos h1, show (o : Int) = 2139095040 by omega]
    exact widen_top
  rw [if_neg h1]
  by_cases h2 : o = 0
  · rw [if_pos h2, show (o : Int) = 0 by omega]
    exact widen_nought
  rw [if_neg h2]
  have hc : bitOk 32 (o : Int) = true ∧ (o : Int) ≠ top 32 ∧ (o : Int) ≠ -top 32 := ⟨ok32 (by omega) (by omega), by rw [show top 32 = 2139095040 from rfl]; omega, by rw [show top 32 = 2139095040 from rfl]; omega⟩
  have hneg : decide ((o : Int) < 0) = false := by simp
  have hf : (2 : Nat) ^ fracB 32 = 8388608 := rfl
  have hl : leastB 32 = -149 := rfl
  unfold widenP partOf
  rw [if_pos hc, Int.natAbs_natCast, hf, hl, hneg]
  by_cases h3 : o / 8388608 = 0
  · have ho : o % 8388608 = o := by omega
    rw [if_pos h3, if_pos h3, if_pos rfl, ho]
    exact bitMake_of h2 (by omega) (mkB64 h2 (by omega) (by omega))
  · rw [if_neg h3, if_neg h3, if_pos rfl]
    exact bitMake_of (by omega) (by omega) (mkB64 (by omega) (by omega) (by omega))
theorem w0_step {s : Nat} {p : Int} (h0 : s ≠ 0) (h1 : s + 1 < 16777216) : w0 s p < w0 (s + 1) p := by
  obtain ⟨k, e, a, b⟩ := blen_spec s (by omega) h0
  have hk : k + 1 ≤ 24 := by
    have : 2 ^ k < 2 ^ 24 := Nat.lt_of_le_of_lt a (by omega)
    have := pow_lt_of this
    omega
  have hp0 : 0 < 2 ^ (53 - (k + 1)) := Nat.pow_pos (by omega)
  unfold w0
  by_cases h2 : s + 1 < 2 ^ (k + 1)
  · have e2 : blen (s + 1) = k + 1 := blen_of (by omega) h2 (by omega)
    rw [e, e2, Nat.add_mul]
    omega
  · have e3 : s + 1 = 2 ^ (k + 1) := by omega
    have e2 : blen (s + 1) = k + 1 + 1 := blen_of (by omega) (by rw [Nat.pow_succ]; omega) (by omega)
    have m1 : (s + 1) * 2 ^ (53 - (k + 1 + 1)) = 4503599627370496 := by
      rw [e3, ← Nat.pow_add, show k + 1 + (53 - (k + 1 + 1)) = 52 by omega]
    have m2 : s * 2 ^ (53 - (k + 1)) + 2 ^ (53 - (k + 1)) = 9007199254740992 := by
      have : (s + 1) * 2 ^ (53 - (k + 1)) = 9007199254740992 := by
        rw [e3, ← Nat.pow_add, show k + 1 + (53 - (k + 1)) = 53 by omega]
      rw [Nat.add_mul, Nat.one_mul] at this
      exact this
    rw [e, e2, m1]
    omega
theorem w0_pos {s : Nat} {p : Int} (h0 : s ≠ 0) (hp : -149 ≤ p) : 0 < w0 s p := by
  unfold w0
  have : (0 : Int) ≤ ((s * 2 ^ (53 - blen s) : Nat) : Int) := Int.natCast_nonneg _
  omega
theorem w0_lt {s : Nat} {p : Int} (h0 : s ≠ 0) (h1 : s < 16777216) (hp : p ≤ 104) : w0 s p < 9218868437227405312 := by
  obtain ⟨k, e, a, b⟩ := blen_spec s (by omega) h0
  have hk : k + 1 ≤ 24 := by
    have : 2 ^ k < 2 ^ 24 := Nat.lt_of_le_of_lt a (by omega)
    have := pow_lt_of this
    omega
  have m : s * 2 ^ (53 - (k + 1)) < 9007199254740992 := by
    have := (Nat.mul_lt_mul_right (a := 2 ^ (53 - (k + 1))) (Nat.pow_pos (by omega))).2 b
    rw [← Nat.pow_add, show k + 1 + (53 - (k + 1)) = 53 by omega] at this
    exact this
  unfold w0
  rw [e]
  omega
theorem wideN_step {o : Nat} (h : o < 2139095040) : wideN o < wideN (o + 1) := by
  unfold wideN
  rw [if_neg (show ¬ o = 2139095040 by omega)]
  by_cases h1 : o + 1 = 2139095040
  · rw [if_pos h1]
    have : o = 2139095039 := by omega
    subst this
    have := w0_lt (s := 16777215) (p := 104) (by omega) (by omega) (by omega)
    simpa using this
  rw [if_neg h1, if_neg (show ¬ o + 1 = 0 by omega)]
  by_cases h2 : o = 0
  · subst h2
    rw [if_pos rfl, if_pos (by omega)]
    exact w0_pos (by omega) (by omega)
  rw [if_neg h2]
  by_cases h3 : o / 8388608 = 0
  · rw [if_pos h3]
    by_cases h4 : (o + 1) / 8388608 = 0
    · rw [if_pos h4]
      exact w0_step h2 (by omega)
    · have h5 : o + 1 = 8388608 := by omega
      rw [if_neg h4, h5]
      have := w0_step (s := o) (p := -149) h2 (by omega)
      rw [h5] at this
      simpa using this
  · rw [if_neg h3, if_neg (show ¬ (o + 1) / 8388608 = 0 by omega)]
    by_cases h4 : (o + 1) / 8388608 = o / 8388608
    · rw [h4, show (o + 1) % 8388608 + 8388608 = (o % 8388608 + 8388608) + 1 by omega]
      exact w0_step (by omega) (by omega)
    · have h5 : o % 8388608 = 8388607 := by omega
      have h6 : (o + 1) % 8388608 = 0 := by omega
      have h7 : (o + 1) / 8388608 = o / 8388608 + 1 := by omega
      rw [h5, h6, h7]
      have b1 : blen (8388607 + 8388608) = 24 := blen_of (k := 23) (by omega) (by omega) (by omega)
      have b2 : blen (0 + 8388608) = 24 := blen_of (k := 23) (by omega) (by omega) (by omega)
      unfold w0
      rw [b1, b2]
      generalize o / 8388608 = q
      have e1 : (((8388607 + 8388608) * 2 ^ (53 - 24) : Nat) : Int) = 9007198717870080 := rfl
      have e2 : (((0 + 8388608) * 2 ^ (53 - 24) : Nat) : Int) = 4503599627370496 := rfl
      rw [e1, e2]
      omega
theorem wideN_lt {a b : Nat} (h : a < b) (hb : b ≤ 2139095040) : wideN a < wideN b := by
  induction b with
  | zero => omega
  | succ b ih =>
    have := wideN_step (o := b) (by omega)
    by_cases e : a = b
    · rw [e]; exact this
    · have := ih (by omega) (by omega); omega
theorem widenP_neg {o : Int} (h0 : 0 < o) (h1 : o ≤ 2139095040) : widenP (-o) = -widenP o := by
  have ht : top 32 = 2139095040 := rfl
  have ok1 : bitOk 32 o = true := ok32 (by omega) (by omega)
  have ok2 : bitOk 32 (-o) = true := ok32 (by omega) (by omega)
  have n1 : ¬ o < 0 := by omega
  have n2 : -o < 0 := by omega
  have ha : (-o).natAbs = o.natAbs := by omega
  unfold widenP partOf
  rw [ha, ok1, ok2, ht]
  by_cases h2 : o = 2139095040
  · subst h2
    simp
  have c1 : ¬ o = -2139095040 := by omega
  have c2 : ¬ -o = 2139095040 := by omega
  have c3 : ¬ -o = -2139095040 := by omega
  rw [if_pos (show true = true ∧ -o ≠ 2139095040 ∧ -o ≠ -2139095040 from ⟨rfl, c2, c3⟩), if_pos (show true = true ∧ o ≠ 2139095040 ∧ o ≠ -2139095040 from ⟨rfl, h2, c1⟩)]
  have key : ∀ (s p : Int), (bitMake 64 (true, s, p, ())).1 = -(bitMake 64 (false, s, p, ())).1 := by
    intro s p
    unfold bitMake
    simp only [if_true, Bool.false_eq_true, if_false]
    split
    · split
      · simp
      · cases mkB 64 s.toNat p <;> simp
    · simp
  by_cases h3 : o.natAbs / 2 ^ fracB 32 = 0
  · simp only [h3, if_true, n1, n2, decide_true, decide_false, key]
  · rw [if_neg h3, if_neg h3]
    simp only [if_true, n1, n2, decide_true, decide_false, key]
theorem widenP_zero : widenP 0 = 0 := widen_nought
theorem widenP_lt {a b : Int} (ha : -2139095040 ≤ a) (hb : b ≤ 2139095040) (h : a < b) : widenP a < widenP b := by
  have pos : ∀ x : Int, 0 < x → x ≤ 2139095040 → 0 < widenP x := by
    intro x h0 h1
    obtain ⟨n, rfl⟩ : ∃ n : Nat, x = n := ⟨x.toNat, by omega⟩
    rw [widenP_nat (by omega)]
    have := wideN_lt (a := 0) (b := n) (by omega) (by omega)
    simpa [wideN] using this
  have mono : ∀ x y : Int, 0 ≤ x → x < y → y ≤ 2139095040 → widenP x < widenP y := by
    intro x y h0 h1 h2
    obtain ⟨n, rfl⟩ : ∃ n : Nat, x = n := ⟨x.toNat, by omega⟩
    obtain ⟨m, rfl⟩ : ∃ m : Nat, y = m := ⟨y.toNat, by omega⟩
    rw [widenP_nat (by omega), widenP_nat (by omega)]
    exact wideN_lt (by omega) (by omega)
  by_cases h0 : 0 ≤ a
  · exact mono a b h0 h hb
  have ea := widenP_neg (o := -a) (by omega) (by omega)
  rw [Int.neg_neg] at ea
  by_cases h1 : 0 ≤ b
  · have p1 := pos (-a) (by omega) (by omega)
    by_cases h2 : b = 0
    · rw [h2, widenP_zero]; omega
    · have p2 := pos b (by omega) hb
      omega
  · have eb := widenP_neg (o := -b) (by omega) (by omega)
    rw [Int.neg_neg] at eb
    have := mono (-b) (-a) (by omega) (by omega) (by omega)
    omega
theorem widenP_top : widenP 2139095040 = 9218868437227405312 := widen_top
theorem widenP_bot : widenP (-2139095040) = -9218868437227405312 := by
  rw [widenP_neg (by omega) (by omega), widenP_top]
theorem widenP_le {a b : Int} (ha : -2139095040 ≤ a) (hb : b ≤ 2139095040) (h : a ≤ b) : widenP a ≤ widenP b := by
  by_cases e : a = b
  · rw [e]; exact Int.le_refl _
  · exact Int.le_of_lt (widenP_lt ha hb (by omega))
theorem widenP_range {a : Int} (ha : -2139095040 ≤ a) (hb : a ≤ 2139095040) : -9218868437227405312 ≤ widenP a ∧ widenP a ≤ 9218868437227405312 := by
  have h1 := widenP_le (a := -2139095040) (b := a) (by omega) hb ha
  have h2 := widenP_le (a := a) (b := 2139095040) ha (by omega) hb
  rw [widenP_bot] at h1
  rw [widenP_top] at h2
  exact ⟨h1, h2⟩
theorem ok64 {m : Int} (h0 : -9218868437227405312 ≤ m) (h1 : m ≤ 9218868437227405312) : bitOk 64 m = true := by
  simp only [bitOk, Bool.and_eq_true, decide_eq_true_eq, show top 64 = 9218868437227405312 from rfl]
  exact ⟨⟨by simp, by omega⟩, by omega⟩
theorem ok64_iff {m : Int} : bitOk 64 m = true ↔ -9218868437227405312 ≤ m ∧ m ≤ 9218868437227405312 := by
  refine ⟨fun h => ?_, fun h => ok64 h.1 h.2⟩
  obtain ⟨_, h1, h2⟩ := bitOk_w h
  rw [show top 64 = 9218868437227405312 from rfl] at h1 h2
  exact ⟨h1, h2⟩
theorem ok32_iff {m : Int} : bitOk 32 m = true ↔ -2139095040 ≤ m ∧ m ≤ 2139095040 := by
  refine ⟨fun h => ?_, fun h => ok32 h.1 h.2⟩
  obtain ⟨_, h1, h2⟩ := bitOk_w h
  rw [show top 32 = 2139095040 from rfl] at h1 h2
  exact ⟨h1, h2⟩
/-- What the search finds. -/
theorem belowF_ok {x : Int} : ∀ (n : Nat) (lo hi : Int), -2139095040 ≤ lo → hi ≤ 2139095040 → lo ≤ hi → hi - lo < n → widenP lo ≤ x → (hi = 2139095040 ∨ x < widenP (hi + 1)) →
    lo ≤ belowF x n lo hi ∧ belowF x n lo hi ≤ hi ∧ widenP (belowF x n lo hi) ≤ x ∧ (belowF x n lo hi = 2139095040 ∨ x < widenP (belowF x n lo hi + 1)) := by
  intro n
  induction n with
  | zero => intro lo hi _ _ h1 h2; omega
  | succ n ih =>
    intro lo hi h0 h1 h2 h3 h4 h5
    rw [belowF]
    by_cases h : lo < hi
    · rw [if_pos h]
      by_cases hc : widenP (lo + (hi - lo + 1) / 2) ≤ x
      · rw [if_pos hc]
        obtain ⟨a, b, c, d⟩ := ih (lo + (hi - lo + 1) / 2) hi (by omega) (by omega) (by omega) (by omega) hc h5
        exact ⟨by omega, b, c, d⟩
      · rw [if_neg hc]
        obtain ⟨a, b, c, d⟩ := ih lo (lo + (hi - lo + 1) / 2 - 1) (by omega) (by omega) (by omega) (by omega) h4 (.inr (by
          rw [show lo + (hi - lo + 1) / 2 - 1 + 1 = lo + (hi - lo + 1) / 2 by omega]; omega))
        exact ⟨a, by omega, c, d⟩
    · rw [if_neg h]
      have : lo = hi := by omega
      subst this
      exact ⟨by omega, by omega, h4, h5⟩
theorem below_ok {N : Nat} {x : Int} (hN : 1099511627776 < N) (h0 : -9218868437227405312 ≤ x) (h1 : x ≤ 9218868437227405312) :
    ∃ r, bitBelow N x = (r, true) ∧ -2139095040 ≤ r ∧ r ≤ 2139095040 ∧ widenP r ≤ x ∧ (r = 2139095040 ∨ x < widenP (r + 1)) := by
  obtain ⟨a, b, c, d⟩ := belowF_ok (x := x) N (-2139095040) 2139095040 (by omega) (by omega) (by omega) (by omega) (by rw [widenP_bot]; omega) (.inl rfl)
  refine ⟨_, ?_, a, b, c, d⟩
  unfold bitBelow
  rw [if_pos (ok64 h0 h1)]
theorem above_ok {N : Nat} {x : Int} (hN : 1099511627776 < N) (h0 : -9218868437227405312 ≤ x) (h1 : x ≤ 9218868437227405312) :
    ∃ r, bitAbove N x = (r, true) ∧ -2139095040 ≤ r ∧ r ≤ 2139095040 ∧ x ≤ widenP r ∧ (r = -2139095040 ∨ widenP (r - 1) < x) := by
  have w : IntKind.i64.wrap (0 - x) = -x := by rw [wrap_i64 (by omega) (by omega)]; omega
  obtain ⟨r, e, a, b, c, d⟩ := below_ok (N := N) (x := -x) hN (by omega) (by omega)
  have hn : ∀ y : Int, -2139095040 ≤ y → y ≤ 2139095040 → widenP (-y) = -widenP y := by
    intro y y0 y1
    by_cases hy : 0 < y
    · exact widenP_neg hy y1
    by_cases hz : y = 0
    · subst hz; rw [Int.neg_zero, widenP_zero]; rfl
    · have := widenP_neg (o := -y) (by omega) (by omega)
      rw [Int.neg_neg] at this
      omega
  have w2 : IntKind.i64.wrap (0 - r) = -r := by rw [wrap_i64 (by omega) (by omega)]; omega
  refine ⟨-r, ?_, by omega, by omega, ?_, ?_⟩
  · unfold bitAbove
    rw [w, e]
    simp only [w2]
  · rw [hn r a b]; omega
  · rcases d with d | d
    · left; omega
    · by_cases hr : r = 2139095040
      · left; omega
      · right
        rw [show -r - 1 = -(r + 1) by omega, hn (r + 1) (by omega) (by omega)]; omega
theorem below_back {N : Nat} {s : Int} (hN : 1099511627776 < N) (h0 : -2139095040 ≤ s) (h1 : s ≤ 2139095040) : bitBelow N (widenP s) = (s, true) ∧ bitAbove N (widenP s) = (s, true) := by
  obtain ⟨r0, r1⟩ := widenP_range h0 h1
  obtain ⟨r, e, a, b, c, d⟩ := below_ok (N := N) hN r0 r1
  obtain ⟨q, e', a', b', c', d'⟩ := above_ok (N := N) hN r0 r1
  have l1 : r ≤ s := Classical.byContradiction fun h => by have := widenP_lt (a := s) (b := r) h0 b (by omega); omega
  have l2 : s ≤ r := Classical.byContradiction fun h => by
    rcases d with d | d
    · omega
    · have := widenP_le (a := r + 1) (b := s) (by omega) h1 (by omega); omega
  have l3 : s ≤ q := Classical.byContradiction fun h => by have := widenP_lt (a := q) (b := s) a' h1 (by omega); omega
  have l4 : q ≤ s := Classical.byContradiction fun h => by
    rcases d' with d | d
    · omega
    · have := widenP_le (a := s) (b := q - 1) h0 (by omega) (by omega); omega
  rw [e, e']
  exact ⟨by rw [show r = s by omega], by rw [show q = s by omega]⟩
end Go.Proofs.YtbaeipjjijdgiaaAm
