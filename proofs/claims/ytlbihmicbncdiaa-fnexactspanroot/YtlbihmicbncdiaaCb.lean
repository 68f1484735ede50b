/-
  The floats next to a fraction: what both texts reckon; the laws.
-/
import Derived.Test.YtlbihmicbncdiaaCa
namespace Go.Proofs.YtlbihmicbncdiaaAm
open Go
set_option linter.unusedVariables false
set_option linter.unusedSimpArgs false

theorem nbits_ge {a : Nat} (h : a ≠ 0) : ∃ k, nbits a = k + 1 ∧ 2 ^ k ≤ a ∧ a < 2 ^ (k + 1) := by
  have hlt := nbits_lt a
  obtain ⟨t0, t1⟩ := digs_top h
  unfold nbits at *
  rw [if_neg h] at *
  obtain ⟨j, e, l1, l2⟩ := blen_spec (a / 65536 ^ ((digs a).length - 1)) (by omega) t0
  refine ⟨16 * ((digs a).length - 1) + j, by rw [e]; omega, ?_, ?_⟩
  · rw [Nat.pow_add, Nat.pow_mul]
    have : (2 : Nat) ^ 16 = 65536 := rfl
    rw [this]
    refine Nat.le_trans (Nat.mul_le_mul_left _ l1) ?_
    rw [Nat.mul_comm]
    exact Nat.div_mul_le_self _ _
  · rw [e] at hlt
    exact hlt
theorem nbits_gt (a i : Nat) : i < nbits a ↔ 2 ^ i ≤ a := by
  by_cases h : a = 0
  · subst h
    have : 0 < 2 ^ i := Nat.pow_pos (by omega)
    have e : nbits 0 = 0 := by simp [nbits]
    rw [e]
    omega
  · obtain ⟨k, e, l1, l2⟩ := nbits_ge h
    rw [e]
    constructor
    · intro h2
      exact Nat.le_trans (Nat.pow_le_pow_right (by omega) (by omega)) l1
    · intro h2
      exact pow_lt_of (Nat.lt_of_le_of_lt h2 l2)
/-- A quotient times a power of two, down; and the rest. -/
def qS (A B : Nat) (s : Int) : Nat := if 0 ≤ s then A * 2 ^ s.toNat / B else A / (B * 2 ^ (-s).toNat)
def rS (A B : Nat) (s : Int) : Nat := if 0 ≤ s then A * 2 ^ s.toNat % B else A % (B * 2 ^ (-s).toNat)
theorem half_mod {Z Y : Nat} (hY : 0 < Y) : Z % (Y * 2) = 0 ↔ Z % Y = 0 ∧ Z / Y % 2 = 0 := by
  constructor
  · intro h
    obtain ⟨k, hk⟩ := Nat.dvd_of_mod_eq_zero h
    have e : Z = Y * (2 * k) := by rw [hk, Nat.mul_assoc]
    rw [e]
    refine ⟨Nat.mul_mod_right _ _, ?_⟩
    rw [Nat.mul_div_cancel_left _ hY]
    exact Nat.mul_mod_right _ _
  · intro ⟨h1, h2⟩
    have e1 := Nat.div_add_mod Z Y
    have e2 := Nat.div_add_mod (Z / Y) 2
    rw [h1, Nat.add_zero] at e1
    rw [h2, Nat.add_zero] at e2
    rw [← e1, ← e2, ← Nat.mul_assoc]
    exact Nat.mul_mod_right _ _
theorem half_step {A B : Nat} (hB : 0 < B) (s : Int) : qS A B (s - 1) = qS A B s / 2 ∧ (rS A B (s - 1) = 0 ↔ rS A B s = 0 ∧ qS A B s % 2 = 0) := by
  unfold qS rS
  by_cases h1 : 1 ≤ s
  · obtain ⟨m, rfl⟩ : ∃ m : Nat, s = (m : Int) + 1 := ⟨(s - 1).toNat, by omega⟩
    have e1 : ((m : Int) + 1 - 1).toNat = m := by omega
    have e2 : ((m : Int) + 1).toNat = m + 1 := by omega
    rw [if_pos (by omega), if_pos (by omega), if_pos (by omega), if_pos (by omega), e1, e2]
    have e3 : A * 2 ^ (m + 1) = A * 2 ^ m * 2 := by rw [Nat.pow_succ, Nat.mul_assoc]
    rw [e3]
    constructor
    · rw [Nat.div_div_eq_div_mul, Nat.mul_div_mul_right _ _ (by omega)]
    · rw [← half_mod hB, Nat.mul_mod_mul_right]
      omega
  · by_cases h0 : s = 0
    · subst h0
      have e1 : (-((0 : Int) - 1)).toNat = 1 := by omega
      have c1 : ¬ (0 : Int) ≤ 0 - 1 := by omega
      have c2 : (0 : Int) ≤ 0 := by omega
      simp only [c1, c2, if_true, if_false, e1, Int.toNat_zero, Nat.pow_zero, Nat.mul_one, Nat.pow_one]
      exact ⟨(Nat.div_div_eq_div_mul _ _ _).symm, half_mod hB⟩
    · obtain ⟨m, rfl⟩ : ∃ m : Nat, s = -(m : Int) := ⟨(-s).toNat, by omega⟩
      have e1 : (-(-(m : Int) - 1)).toNat = m + 1 := by omega
      have e2 : (- -(m : Int)).toNat = m := by omega
      have hp : 0 < B * 2 ^ m := Nat.mul_pos hB (Nat.pow_pos (by omega))
      rw [if_neg (by omega), if_neg (by omega), if_neg (by omega), if_neg (by omega), e1, e2, Nat.pow_succ, ← Nat.mul_assoc]
      exact ⟨(Nat.div_div_eq_div_mul _ _ _).symm, half_mod hp⟩
theorem qS_lt {A B a b : Nat} {s : Int} {D : Nat} (hA : A < 2 ^ a) (hB : 2 ^ b ≤ B) (hs : s ≤ (D : Int) - a + b + 1) : qS A B s < 2 ^ (D + 1) := by
  have hB0 : 0 < B := Nat.lt_of_lt_of_le (Nat.pow_pos (by omega)) hB
  have hp : ∀ i : Nat, 0 < 2 ^ i := fun i => Nat.pow_pos (by omega)
  unfold qS
  split
  · obtain ⟨m, rfl⟩ : ∃ m : Nat, s = (m : Int) := ⟨s.toNat, by omega⟩
    rw [Int.toNat_natCast, Nat.div_lt_iff_lt_mul hB0]
    have h1 : A * 2 ^ m < 2 ^ (a + m) := by rw [Nat.pow_add]; exact (Nat.mul_lt_mul_right (hp m)).2 hA
    have h2 : 2 ^ (a + m) ≤ 2 ^ (D + 1 + b) := Nat.pow_le_pow_right (by omega) (by omega)
    have h3 : 2 ^ (D + 1 + b) ≤ 2 ^ (D + 1) * B := by rw [Nat.pow_add]; exact Nat.mul_le_mul_left _ hB
    omega
  · obtain ⟨m, rfl⟩ : ∃ m : Nat, s = -(m : Int) := ⟨(-s).toNat, by omega⟩
    rw [show (- -(m : Int)).toNat = m by omega, Nat.div_lt_iff_lt_mul (Nat.mul_pos hB0 (hp m))]
    have h2 : 2 ^ a ≤ 2 ^ (D + 1 + (b + m)) := Nat.pow_le_pow_right (by omega) (by omega)
    have h3 : 2 ^ (D + 1 + (b + m)) ≤ 2 ^ (D + 1) * (B * 2 ^ m) := by
      rw [Nat.pow_add 2 (D + 1) (b + m), Nat.pow_add 2 b m]; exact Nat.mul_le_mul_left _ (Nat.mul_le_mul_right _ hB)
    omega
theorem qS_ge {A B a b : Nat} {s : Int} {F : Nat} (hA : 2 ^ a ≤ A) (hB : B < 2 ^ b) (hB0 : 0 < B) (hs : (F : Int) - a + b ≤ s) : 2 ^ F ≤ qS A B s := by
  have hp : ∀ i : Nat, 0 < 2 ^ i := fun i => Nat.pow_pos (by omega)
  unfold qS
  split
  · obtain ⟨m, rfl⟩ : ∃ m : Nat, s = (m : Int) := ⟨s.toNat, by omega⟩
    rw [Int.toNat_natCast, Nat.le_div_iff_mul_le hB0]
    have h1 : 2 ^ (a + m) ≤ A * 2 ^ m := by rw [Nat.pow_add]; exact Nat.mul_le_mul_right _ hA
    have h2 : 2 ^ (F + b) ≤ 2 ^ (a + m) := Nat.pow_le_pow_right (by omega) (by omega)
    have h3 : 2 ^ F * B ≤ 2 ^ (F + b) := by rw [Nat.pow_add]; exact Nat.mul_le_mul_left _ (Nat.le_of_lt hB)
    omega
  · obtain ⟨m, rfl⟩ : ∃ m : Nat, s = -(m : Int) := ⟨(-s).toNat, by omega⟩
    rw [show (- -(m : Int)).toNat = m by omega, Nat.le_div_iff_mul_le (Nat.mul_pos hB0 (hp m))]
    have h2 : 2 ^ (F + (b + m)) ≤ 2 ^ a := Nat.pow_le_pow_right (by omega) (by omega)
    have h3 : 2 ^ F * (B * 2 ^ m) ≤ 2 ^ (F + (b + m)) := by
      rw [Nat.pow_add 2 F (b + m), Nat.pow_add 2 b m]; exact Nat.mul_le_mul_left _ (Nat.mul_le_mul_right _ (Nat.le_of_lt hB))
    omega
/-- The float of a scaled quotient. -/
def truncE (w : Int) (q : Nat) (P : Int) (ex : Bool) : Int × Bool :=
  if 2 ^ fracB w ≤ q then (if 2 * greatB w < P - leastB w + 1 then (top w - 1, false) else ((P - leastB w + 1) * (2 ^ fracB w : Nat) + ((q : Int) - (2 ^ fracB w : Nat)), ex)) else ((q : Int), ex)
def scale0 (w : Int) (A B : Nat) : Int := min ((fracB w : Int) + 1 - nbits A + nbits B) (-leastB w)
/-- The greatest float that is not above a quotient, and whether it is it. -/
def trunc (w : Int) (A B : Nat) : Int × Bool :=
  if A = 0 then (0, true)
  else if 2 ^ (fracB w + 1) ≤ qS A B (scale0 w A B) then truncE w (qS A B (scale0 w A B) / 2) (1 - scale0 w A B) (decide (rS A B (scale0 w A B) = 0) && decide (qS A B (scale0 w A B) % 2 = 0))
  else truncE w (qS A B (scale0 w A B)) (-scale0 w A B) (decide (rS A B (scale0 w A B) = 0))
theorem nb256 {a : Nat} (h : a < 65536 ^ 256) : nbits a ≤ 9600 := by
  have := nbits_le (digs_len_le h); omega
theorem nb_cap {a : Nat} (h : nbits a ≤ 9600) : a < cap0 := by
  obtain ⟨E, hE⟩ : ∃ E, E = 620 := ⟨_, rfl⟩
  exact lt_cap0 (Nat.lt_trans (nbits_lt a) (pow2_cap (E := E) (by omega))) (by omega)
theorem scale_facts {w : Int} {A B : Nat} (hA0 : A ≠ 0) (hB0 : B ≠ 0) (hA : nbits A ≤ 9600) (hB : nbits B ≤ 9600) :
    -9700 ≤ scale0 w A B ∧ scale0 w A B ≤ 1074 ∧ qS A B (scale0 w A B) < 2 ^ (fracB w + 2) ∧ (2 ^ fracB w ≤ qS A B (scale0 w A B) ∨ scale0 w A B = -leastB w) := by
  obtain ⟨g1, g2, g3, g4, g5⟩ := frac_great w
  have na := hA
  have nb := hB
  obtain ⟨i, ei, a1, a2⟩ := nbits_ge hA0
  obtain ⟨j, ej, b1, b2⟩ := nbits_ge hB0
  unfold scale0
  refine ⟨by omega, by omega, ?_, ?_⟩
  · exact qS_lt (D := fracB w + 1) a2 b1 (by omega)
  · by_cases h : (fracB w : Int) + 1 - nbits A + nbits B ≤ -leastB w
    · left
      exact qS_ge a1 b2 (Nat.pos_of_ne_zero hB0) (by omega)
    · right; omega
theorem scaled_cap {A : Nat} {i : Nat} (hA : nbits A ≤ 9600) (hi : i ≤ 9800) : A * 2 ^ i < cap0 := by
  obtain ⟨E, hE⟩ : ∃ E, E = 1300 := ⟨_, rfl⟩
  have h1 : A * 2 ^ i < 2 ^ (nbits A + i) := by
    rw [Nat.pow_add]; exact (Nat.mul_lt_mul_right (Nat.pow_pos (by omega))).2 (nbits_lt A)
  exact lt_cap0 (Nat.lt_trans h1 (pow2_cap (E := E) (by omega))) (by omega)
theorem pow_cap43 {i : Nat} (hi : i ≤ 9800) : 2 ^ i < cap := by
  obtain ⟨E, hE⟩ : ∃ E, E = 620 := ⟨_, rfl⟩
  have hp : 2 ^ i < 65536 ^ E := pow2_cap (by omega)
  exact lt_cap hp (by omega)
def roundF (w : Int) (s : Bool) (A B : Nat) (up : Bool) : Int :=
  if s = true then -((trunc w A B).1 + if (trunc w A B).2 = false ∧ up = false then 1 else 0) else (trunc w A B).1 + if (trunc w A B).2 = false ∧ up = true then 1 else 0
theorem truncE_bound {w : Int} {q : Nat} {P : Int} {ex : Bool} (hw : w = 32 ∨ w = 64) (hq : q < 2 ^ (fracB w + 1)) (hP : leastB w ≤ P) : 0 ≤ (truncE w q P ex).1 ∧ (truncE w q P ex).1 < 9218868437227405312 := by
  obtain ⟨g1, g2, g3, g4, g5⟩ := frac_great w
  have hG : 0 ≤ greatB w ∧ greatB w ≤ 1023 := by unfold greatB; split <;> omega
  have hpo := pow_le_52 g2
  have hp0 : 0 < 2 ^ fracB w := Nat.pow_pos (by omega)
  have ht := top_nonneg w
  have hte := top_eq hw
  rw [Nat.pow_succ] at hq
  have ht1 : 1 ≤ top w := by rcases hw with rfl | rfl <;> simp [top]
  unfold truncE
  split
  · split
    · simp only; omega
    · rename_i h1 h2
      obtain ⟨e, he⟩ : ∃ e : Nat, P - leastB w + 1 = (e : Int) := ⟨(P - leastB w + 1).toNat, by omega⟩
      have hm : e * 2 ^ fracB w ≤ 2046 * 4503599627370496 := Nat.mul_le_mul (by omega) hpo
      have hme : (e : Int) * ((2 ^ fracB w : Nat) : Int) = ((e * 2 ^ fracB w : Nat) : Int) := (Int.natCast_mul _ _).symm
      simp only [he, hme]; omega
  · simp only; omega
theorem trunc_bound {w : Int} {A B : Nat} (hw : w = 32 ∨ w = 64) (hA : nbits A ≤ 9600) (hB : nbits B ≤ 9600) (hB0 : B ≠ 0) : 0 ≤ (trunc w A B).1 ∧ (trunc w A B).1 < 9218868437227405312 := by
  unfold trunc
  split
  · simp
  · rename_i hA0
    obtain ⟨f1, f2, f3, f4⟩ := scale_facts (w := w) hA0 hB0 hA hB
    have hs : scale0 w A B ≤ -leastB w := by unfold scale0; omega
    split
    · refine truncE_bound hw ?_ (by omega)
      rw [Nat.pow_succ] at f3; omega
    · exact truncE_bound hw (by omega) (by omega)
def floatTo (w : Int) (f : FracD) (up : Bool) : Int × Bool := if (w = 32 ∨ w = 64) ∧ fracOkB f = true then (roundF w f.1 (val f.2.1).toNat (val f.2.2.1).toNat up, true) else (0, false)
theorem borU {x y : Nat} (hx : x < 18446744073709551616) (hy : y < 18446744073709551616) : bitI .or .u64 (x : Int) (y : Int) = ((x ||| y : Nat) : Int) := by
  have h := Nat.or_lt_two_pow (n := 64) (by simpa using hx) (by simpa using hy)
  show IntKind.u64.wrap (((BitVec.ofInt 64 (x : Int) ||| BitVec.ofInt 64 (y : Int)).toNat : Nat) : Int) = _
  rw [BitVec.ofInt_natCast, BitVec.ofInt_natCast, BitVec.toNat_or, BitVec.toNat_ofNat, BitVec.toNat_ofNat]
  rw [Nat.mod_eq_of_lt (by omega), Nat.mod_eq_of_lt (by omega), wrap_u64 (by omega) (by omega)]
theorem make_trunc {w : Int} {q : Nat} {P : Int} {ex : Bool} (hw : w = 32 ∨ w = 64) (hq : q < 2 ^ (fracB w + 1)) (hP : leastB w ≤ P) (hP2 : P ≤ 9800) (hc : 2 ^ fracB w ≤ q ∨ P = leastB w) :
    truncE w q P ex = if (bitMake w (false, (q : Int), P, ())).2 = true then ((bitMake w (false, (q : Int), P, ())).1, ex) else (top w - 1, false) := by
  obtain ⟨g1, g2, g3, g4, g5⟩ := frac_great w
  have hG : 0 ≤ greatB w ∧ greatB w ≤ 1023 := by unfold greatB; split <;> omega
  have hpo := pow_le_52 g2
  have hp0 : 0 < 2 ^ fracB w := Nat.pow_pos (by omega)
  have hq' := hq
  rw [Nat.pow_succ] at hq'
  by_cases hq0 : q = 0
  · subst hq0
    have hPl : P = leastB w := by rcases hc with h | h <;> omega
    have : bitMake w (false, ((0 : Nat) : Int), P, ()) = (0, true) := by
      unfold bitMake
      simp only
      rw [if_pos ⟨hw, by omega, by omega⟩]
      simp
    rw [this]
    unfold truncE
    rw [if_neg (by omega)]
    simp
  obtain ⟨o, ho1, ho2, ho3, hz, ho4⟩ := odd_of hq0 (show q < 2 ^ 64 by omega)
  have hmk : mkB w q P = mkS w q P := by
    unfold mkB
    rw [ho4]
    exact (mk_same ho1 ho3 ho2 (by omega) (by omega) (fun h => by omega) (by omega)).symm
  have hcq : ¬ ((q : Int) = 0) := by omega
  by_cases h2 : P ≤ 2000
  · have hb : bitMake w (false, (q : Int), P, ()) = match mkS w q P with
        | none => (0, false)
        | some n => (n, true) := by
      unfold bitMake
      simp only
      rw [if_pos ⟨hw, by omega, h2⟩, if_neg hcq, Int.toNat_natCast, hmk]
      cases mkS w q P <;> simp
    rw [hb]
    unfold truncE mkS
    rw [if_neg (show ¬ (2 * 2 ^ fracB w ≤ q ∨ P < leastB w) by omega)]
    by_cases h3 : 2 ^ fracB w ≤ q
    · rw [if_pos h3, if_pos h3]
      by_cases h4 : 2 * greatB w < P - leastB w + 1
      · rw [if_pos h4, if_pos h4]; simp
      · rw [if_neg h4, if_neg h4]; simp
    · rw [if_neg h3, if_neg h3]; simp
  · have hb : bitMake w (false, (q : Int), P, ()) = (0, false) := by
      unfold bitMake
      simp only
      rw [if_neg (fun h => h2 h.2.2)]
    rw [hb]
    unfold truncE
    have hq1 : 2 ^ fracB w ≤ q := by
      rcases hc with h | h
      · exact h
      · omega
    rw [if_pos hq1, if_pos (by omega)]
    simp
def pairFrac (w : Int) (f : FracD) : PairD × Bool := (((floatTo w f false).1, (floatTo w f true).1, ()), (floatTo w f false).2)
end Go.Proofs.YtlbihmicbncdiaaAm
