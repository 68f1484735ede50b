/-
  What the functions on boxes compute, in plain words.
-/
import Derived.Test.YtbaeipjjijdgiaaA
namespace Go.Proofs.YtbaeipjjijdgiaaAm
open Go
set_option linter.unusedVariables false
set_option linter.unusedSimpArgs false

theorem cast_lt {i n : Nat} (h : i < n) : decide ((i : Int) < (n : Int)) = true := by simpa using h
theorem cast_nlt {i n : Nat} (h : ¬ i < n) : decide ((i : Int) < (n : Int)) = false := by simpa using h
theorem cast_neg (i : Nat) : decide ((i : Int) < 0) = false := by simp
theorem cast_nn (i : Nat) : decide ((0 : Int) ≤ (i : Int)) = true := by simp
theorem succ_i {i : Nat} (h : i < 4611686018427387904) : IntKind.i64.wrap ((i : Int) + 1) = ((i + 1 : Nat) : Int) := by
 rw [wrap_i64 (by omega) (by omega)]; rfl
abbrev BoxD := List PairD × Unit
def boxOk (w : Int) (b : List PairD) : Bool := decide (1 ≤ b.length) && decide (b.length ≤ 6) && b.all (pairOk w)
theorem boxOk_len {w : Int} {b : List PairD} (h : boxOk w b = true) : 1 ≤ b.length ∧ b.length ≤ 6 ∧ ∀ p ∈ b, pairOk w p = true := by
 simpa [boxOk, and_assoc] using h
theorem spec_BoxOk_loop {α : Type} (N : Nat) (w : Int) (a : BoxD) (hb : a.1.length < 4611686018427387904) (k : Bool → Option α) (k1 : Option α) : ∀ (d i n : Nat), i + d = a.1.length → d < n →
    spec_BoxOk_L0 N n w i a k k1 = if (a.1.drop i).all (pairOk w) = true then k1 else k false := by
  intro d
  induction d with
  | zero =>
    intro i n h hn
    obtain ⟨m, rfl⟩ : ∃ m, n = m + 1 := ⟨n - 1, by omega⟩
    rw [spec_BoxOk_L0.succ]
    unfold spec_BoxOk_L0r
    simp only [cast_nlt (show ¬ i < a.1.length by omega), cond_false]
    rw [List.drop_of_length_le (by omega)]; simp
  | succ d ih =>
    intro i n h hn
    obtain ⟨m, rfl⟩ : ∃ m, n = m + 1 := ⟨n - 1, by omega⟩
    have hi : i < a.1.length := by omega
    rw [spec_BoxOk_L0.succ]
    unfold spec_BoxOk_L0r
    simp only [cast_lt hi, cast_neg, cond_true, cond_false, Int.toNat_natCast, List.getElem?_eq_getElem hi, spec_PairOk_eq, succ_i (show i < 4611686018427387904 by omega)]
    have e1 := List.drop_eq_getElem_cons hi
    rw [ih (i + 1) m (by omega) (by omega), e1, List.all_cons]
    cases he : pairOk w a.1[i] <;> simp only [Bool.not_true, Bool.not_false, cond_true, cond_false, Bool.true_and, Bool.false_and, Bool.false_eq_true, if_false]
theorem spec_BoxOk_eq {α : Type} (N : Nat) (w : Int) (a : BoxD) (k : Bool → Option α) (hN : 1048576 < N) : spec_BoxOk N w a k = k (boxOk w a.1) := by
 rw [spec_BoxOk.eq]
 unfold spec_BoxOk.b boxOk
 by_cases h1 : 1 ≤ a.1.length
 ·have g1 : ¬ ((a.1.length : Int) < 1) := by omega
  by_cases h2 : a.1.length ≤ 6
  ·have g2 : ¬ ((6 : Int) < (a.1.length : Int)) := by omega
   have := spec_BoxOk_loop N w a (by omega) (fun x => k x) (k true) a.1.length 0 N (by omega) (by omega)
   simp only [List.drop_zero] at this
   simp only [g1, g2, decide_false, cond_false]
   rw [show ((0 : Int)) = ((0 : Nat) : Int) from rfl, this]
   cases he : a.1.all (pairOk w) <;> simp [h1, h2]
  ·have g2 : ((6 : Int) < (a.1.length : Int)) := by omega
   simp [g1, g2, h2]
 ·have g1 : ((a.1.length : Int) < 1) := by omega
  simp [g1, h1]
theorem impl_BoxOk_1_eq {α : Type} (N : Nat) (p : PairD) (w : Int) (k : Bool → Option α) : impl_BoxOk_1 N p w k = k (!pairOk w p) := by
 rw [impl_BoxOk_1.eq]
 unfold impl_BoxOk_1.b
 rw [impl_PairOk_eq]
theorem indexBoxOk_loop {α : Type} (N : Nat) (w : Int) (a : List PairD) (hb : a.length < 4611686018427387904) (k : Int → Option α) (k1 : Option α) : ∀ (d i n : Nat), i + d = a.length → d < n →
    slices_IndexFunc_impl_Pair_impl_Pair__impl_BoxOk_1_L0 N n a w a.length i k k1 = if (a.drop i).all (pairOk w) = true then k1 else k ((i + (a.drop i).findIdx (fun p => !pairOk w p) : Nat)) := by
  intro d
  induction d with
  | zero =>
    intro i n h hn
    obtain ⟨m, rfl⟩ : ∃ m, n = m + 1 := ⟨n - 1, by omega⟩
    rw [slices_IndexFunc_impl_Pair_impl_Pair__impl_BoxOk_1_L0.succ]
    unfold slices_IndexFunc_impl_Pair_impl_Pair__impl_BoxOk_1_L0r
    simp only [cast_nlt (show ¬ i < a.length by omega), cond_false]
    rw [List.drop_of_length_le (by omega)]; simp
  | succ d ih =>
    intro i n h hn
    obtain ⟨m, rfl⟩ : ∃ m, n = m + 1 := ⟨n - 1, by omega⟩
    have hi : i < a.length := by omega
    rw [slices_IndexFunc_impl_Pair_impl_Pair__impl_BoxOk_1_L0.succ]
    unfold slices_IndexFunc_impl_Pair_impl_Pair__impl_BoxOk_1_L0r
    simp only [cast_lt hi, cast_neg, cond_true, cond_false, Int.toNat_natCast, List.getElem?_eq_getElem hi, impl_BoxOk_1_eq, succ_i (show i < 4611686018427387904 by omega)]
    have e1 := List.drop_eq_getElem_cons hi
    rw [ih (i + 1) m (by omega) (by omega), e1, List.all_cons, List.findIdx_cons]
    cases he : pairOk w a[i]
    · simp
    · simp only [Bool.not_true, cond_false, Bool.true_and]
      split
      · rfl
      · congr 2; omega
theorem containsBoxOk_eq {α : Type} (N : Nat) (w : Int) (a : List PairD) (hb : a.length ≤ 1048576) (hN : 1048576 < N) (k : Bool → Option α) :
  slices_ContainsFunc_impl_Pair_impl_Pair__impl_BoxOk_1 N a w k = k (!a.all (pairOk w)) := by
 rw [slices_ContainsFunc_impl_Pair_impl_Pair__impl_BoxOk_1.eq]
 unfold slices_ContainsFunc_impl_Pair_impl_Pair__impl_BoxOk_1.b
 rw [slices_IndexFunc_impl_Pair_impl_Pair__impl_BoxOk_1.eq]
 unfold slices_IndexFunc_impl_Pair_impl_Pair__impl_BoxOk_1.b
 rw [show ((0 : Int)) = ((0 : Nat) : Int) from rfl, indexBoxOk_loop N w a (by omega) _ _ a.length 0 N (by omega) (by omega)]
 simp only [List.drop_zero]
 cases he : a.all (pairOk w)
 ·simp [cast_nn]
 ·simp
theorem impl_BoxOk_eq {α : Type} (N : Nat) (w : Int) (a : BoxD) (k : Bool → Option α) (hN : 1048576 < N) : impl_BoxOk N w a k = k (boxOk w a.1) := by
 rw [impl_BoxOk.eq]
 unfold impl_BoxOk.b boxOk
 simp only [impl_in_eq]
 by_cases h1 : 1 ≤ a.1.length
 ·have g1 : ((1 : Int) ≤ (a.1.length : Int)) := by omega
  by_cases h2 : a.1.length ≤ 6
  ·have g2 : ((a.1.length : Int) ≤ 6) := by omega
   simp only [g1, g2, decide_true, Bool.and_self, cond_true, containsBoxOk_eq N w a.1 (by omega) hN]
   simp [h1, h2]
  ·have g2 : ¬ ((a.1.length : Int) ≤ 6) := by omega
   simp [g2, h2]
 ·have g1 : ¬ ((1 : Int) ≤ (a.1.length : Int)) := by omega
  simp [g1, h1]
def gapP (p : PairD) : Int := gap p.1 p.2.1
def widest (b : List PairD) : Nat → Nat → List PairD → Nat
 | at', _, [] => at'
 | at', i, p :: r => widest b (if gapP (b.getD at' p0) < gapP p then i else at') (i + 1) r
theorem widest_lt {b : List PairD} : ∀ (r : List PairD) (at' i : Nat), at' < b.length → i + r.length ≤ b.length → widest b at' i r < b.length
  | [], at', i, h, _ => h
  | p :: r, at', i, h, hl => by
    simp only [List.length_cons] at hl
    unfold widest
    refine widest_lt r _ _ ?_ (by omega)
    split <;> omega
def boxWidest (w : Int) (b : List PairD) : Int := if boxOk w b = true then (widest b 0 1 (b.drop 1) : Nat) else -1
theorem widest_first (b : List PairD) (h : 0 < b.length) : widest b 0 0 b = widest b 0 1 (b.drop 1) := by
  cases b with
  | nil => simp at h
  | cons p r =>
    rw [widest]
    simp
theorem impl_BoxWidest_loop {α : Type} (N : Nat) (b : BoxD) (hb : b.1.length < 4611686018427387904) (k : Int → Option α) : ∀ (d i n at' : Nat), i + d = b.1.length → d < n → at' < b.1.length →
    impl_BoxWidest_L0 N n at' b.1 b.1.length i b k = k ((widest b.1 at' i (b.1.drop i) : Nat)) := by
  intro d
  induction d with
  | zero =>
    intro i n at' h hn ha
    obtain ⟨m, rfl⟩ : ∃ m, n = m + 1 := ⟨n - 1, by omega⟩
    rw [impl_BoxWidest_L0.succ]
    unfold impl_BoxWidest_L0r
    simp only [cast_nlt (show ¬ i < b.1.length by omega), cond_false]
    rw [List.drop_of_length_le (by omega)]; rfl
  | succ d ih =>
    intro i n at' h hn ha
    obtain ⟨m, rfl⟩ : ∃ m, n = m + 1 := ⟨n - 1, by omega⟩
    have hi : i < b.1.length := by omega
    rw [impl_BoxWidest_L0.succ]
    unfold impl_BoxWidest_L0r
    simp only [cast_lt hi, cast_neg, cond_true, cond_false, Int.toNat_natCast, List.getElem?_eq_getElem hi]
    rw [impl_BoxWidest_J7.eq]
    unfold impl_BoxWidest_J7.b
    simp only [cast_neg, cond_false, Int.toNat_natCast, List.getElem?_eq_getElem ha, impl_Pair_steps_eq, succ_i (show i < 4611686018427387904 by omega)]
    rw [List.drop_eq_getElem_cons hi]
    unfold widest
    have hg : b.1.getD at' p0 = b.1[at'] := by simp [List.getD, ha]
    rw [hg]
    unfold gapP
    by_cases hlt : gap b.1[at'].1 b.1[at'].2.1 < gap b.1[i].1 b.1[i].2.1
    · simp only [hlt, decide_true, cond_true, if_true]
      exact ih (i + 1) m i (by omega) (by omega) hi
    · simp only [hlt, decide_false, cond_false, if_false]
      exact ih (i + 1) m at' (by omega) (by omega) ha
theorem impl_BoxWidest_eq {α : Type} (N : Nat) (w : Int) (b : BoxD) (k : Int → Option α) (hN : 1048576 < N) : impl_BoxWidest N w b k = k (boxWidest w b.1) := by
 rw [impl_BoxWidest.eq]
 unfold impl_BoxWidest.b boxWidest
 rw [impl_BoxOk_eq _ _ _ _ hN]
 cases h : boxOk w b.1
 ·simp
 ·obtain ⟨h1, h2, _⟩ := boxOk_len h
  have := impl_BoxWidest_loop N b (by omega) (fun x => k x) b.1.length 0 N 0 (by omega) (by omega) (by omega)
  simp only [List.drop_zero, widest_first b.1 h1] at this
  simp only [Bool.not_true, cond_false, if_true]
  exact this
theorem minI_eq (a b : Int) : minI a b = min a b := by unfold minI; omega
def unitsFold : Int → List PairD → Int
 | n, [] => n
 | n, p :: r => unitsFold (if gapP p = 0 then n else min 1000000000 (n * (4 * min (gapP p) 1000000000 - 1))) r
def boxUnits (w : Int) (b : List PairD) : Int := if boxOk w b = true then unitsFold 1 b else 0
theorem gap_nonneg (a b : Int) : 0 ≤ gap a b ∧ gap a b < 18446744073709551616 := by
 unfold gap
 split
 ·omega
 ·rw [u64w]; omega
theorem gapP_nonneg (p : PairD) : 0 ≤ gapP p ∧ gapP p < 18446744073709551616 := gap_nonneg _ _
theorem step_le {n g : Int} (hn : 1 ≤ n) (hg : 1 ≤ g) : n ≤ n * (4 * g - 1) := by
 have : n * 1 ≤ n * (4 * g - 1) := Int.mul_le_mul_of_nonneg_left (by omega) (by omega)
 omega
theorem units_step {n : Int} (hn : 1 ≤ n) (hn2 : n ≤ 1000000000) (p : PairD) : 1 ≤ (if gapP p = 0 then n else min 1000000000 (n * (4 * min (gapP p) 1000000000 - 1))) ∧ (if gapP p = 0 then n else min 1000000000 (n * (4 * min (gapP p) 1000000000 - 1))) ≤ 1000000000 := by
 have := gapP_nonneg p
 split
 ·omega
 ·have := step_le (g := min (gapP p) 1000000000) hn (by omega)
  omega
theorem units_full : ∀ (r : List PairD), unitsFold 1000000000 r = 1000000000
  | [] => rfl
  | p :: r => by
    unfold unitsFold
    have := gapP_nonneg p
    split
    · exact units_full r
    · have h2 := step_le (n := 1000000000) (g := min (gapP p) 1000000000) (by omega) (by omega)
      rw [Int.min_eq_left h2]
      exact units_full r
theorem spec_BoxUnits_loop {α : Type} (N : Nat) (a : BoxD) (hb : a.1.length < 4611686018427387904) (k k1 : Int → Option α) (hk : k = k1) : ∀ (d i n : Nat) (u : Int), i + d = a.1.length → d < n → 1 ≤ u → u ≤ 1000000000 →
    spec_BoxUnits_L0 N n u i a k k1 = k1 (unitsFold u (a.1.drop i)) := by
  subst hk
  intro d
  induction d with
  | zero =>
    intro i n u h hn hu1 hu2
    obtain ⟨m, rfl⟩ : ∃ m, n = m + 1 := ⟨n - 1, by omega⟩
    rw [spec_BoxUnits_L0.succ]
    unfold spec_BoxUnits_L0r
    simp only [cast_nlt (show ¬ i < a.1.length by omega), cond_false]
    rw [List.drop_of_length_le (by omega)]; simp [unitsFold]
  | succ d ih =>
    intro i n u h hn hu1 hu2
    obtain ⟨m, rfl⟩ : ∃ m, n = m + 1 := ⟨n - 1, by omega⟩
    have hi : i < a.1.length := by omega
    rw [spec_BoxUnits_L0.succ]
    unfold spec_BoxUnits_L0r
    simp only [cast_lt hi, cast_neg, cond_true, cond_false, Int.toNat_natCast, List.getElem?_eq_getElem hi, spec_l3Gap_eq, succ_i (show i < 4611686018427387904 by omega)]
    have e1 := List.drop_eq_getElem_cons hi
    rw [e1, unitsFold]
    have hg := gapP_nonneg a.1[i]
    have hfold : gap a.1[i].1 a.1[i].2.1 = gapP a.1[i] := rfl
    rw [hfold]
    generalize gapP a.1[i] = g at *
    have hst := units_step hu1 hu2
    by_cases h0 : g = 0
    · simp only [h0, decide_true, cond_true, if_true]
      exact ih (i + 1) m u (by omega) (by omega) hu1 hu2
    · simp only [h0, decide_false, cond_false, if_false]
      by_cases h1 : 1000000000 < g
      · simp only [h1, decide_true, cond_true]
        rw [Int.min_eq_right (show (1000000000 : Int) ≤ g by omega)]
        have h2 := step_le (n := u) (g := 1000000000) hu1 (by omega)
        have h3 : (1000000000 : Int) ≤ u * (4 * 1000000000 - 1) := by
          have : 1 * (4 * 1000000000 - 1) ≤ u * (4 * 1000000000 - 1) := Int.mul_le_mul_of_nonneg_right hu1 (by omega)
          omega
        rw [Int.min_eq_left h3, units_full]
      · have hw : IntKind.i64.wrap (u * IntKind.i64.wrap (IntKind.i64.wrap (4 * IntKind.i64.wrap g) - 1)) = u * (4 * g - 1) := by
          rw [wrap_i64 (x := g) (by omega) (by omega), wrap_i64 (x := 4 * g) (by omega) (by omega), wrap_i64 (x := 4 * g - 1) (by omega) (by omega)]
          have h3 : u * (4 * g - 1) ≤ 1000000000 * (4 * 1000000000 - 1) := Int.mul_le_mul (by omega) (by omega) (by omega) (by omega)
          have h4 := step_le (n := u) (g := g) hu1 (by omega)
          exact wrap_i64 (by omega) (by omega)
        simp only [h1, decide_false, cond_false, hw]
        rw [Int.min_eq_left (show g ≤ 1000000000 by omega)]
        by_cases h2 : 1000000000 ≤ u * (4 * g - 1)
        · simp only [h2, decide_true, cond_true]
          rw [Int.min_eq_left h2, units_full]
        · simp only [h2, decide_false, cond_false]
          have h4 := step_le (n := u) (g := g) hu1 (by omega)
          rw [Int.min_eq_right (show u * (4 * g - 1) ≤ 1000000000 by omega)]
          exact ih (i + 1) m _ (by omega) (by omega) (by omega) (by omega)
theorem spec_BoxUnits_eq {α : Type} (N : Nat) (w : Int) (b : BoxD) (k : Int → Option α) (hN : 1048576 < N) : spec_BoxUnits N w b k = k (boxUnits w b.1) := by
 rw [spec_BoxUnits.eq]
 unfold spec_BoxUnits.b boxUnits
 rw [spec_BoxOk_eq _ _ _ _ hN]
 cases h : boxOk w b.1
 ·simp
 ·obtain ⟨h1, h2, _⟩ := boxOk_len h
  have := spec_BoxUnits_loop N b (by omega) (fun x => k x) (fun x => k x) rfl b.1.length 0 N 1 (by omega) (by omega) (by omega) (by omega)
  simp only [List.drop_zero] at this
  simp only [Bool.not_true, cond_false, if_true]
  exact this
theorem impl_BoxUnits_loop {α : Type} (N : Nat) (a : List PairD) (hb : a.length < 4611686018427387904) (k : Int → Option α) : ∀ (d i n : Nat) (u : Int), i + d = a.length → d < n → 1 ≤ u → u ≤ 1000000000 →
    impl_BoxUnits_L0 N n u a a.length i k = k (unitsFold u (a.drop i)) := by
  intro d
  induction d with
  | zero =>
    intro i n u h hn hu1 hu2
    obtain ⟨m, rfl⟩ : ∃ m, n = m + 1 := ⟨n - 1, by omega⟩
    rw [impl_BoxUnits_L0.succ]
    unfold impl_BoxUnits_L0r
    simp only [cast_nlt (show ¬ i < a.length by omega), cond_false]
    rw [List.drop_of_length_le (by omega)]; simp [unitsFold]
  | succ d ih =>
    intro i n u h hn hu1 hu2
    obtain ⟨m, rfl⟩ : ∃ m, n = m + 1 := ⟨n - 1, by omega⟩
    have hi : i < a.length := by omega
    rw [impl_BoxUnits_L0.succ]
    unfold impl_BoxUnits_L0r
    simp only [cast_lt hi, cast_neg, cond_true, cond_false, Int.toNat_natCast, List.getElem?_eq_getElem hi, impl_Pair_steps_eq]
    rw [impl_BoxUnits_J8.eq]
    unfold impl_BoxUnits_J8.b
    simp only [succ_i (show i < 4611686018427387904 by omega)]
    have e1 := List.drop_eq_getElem_cons hi
    rw [e1, unitsFold]
    have hst := units_step hu1 hu2 a[i]
    have hg := gapP_nonneg a[i]
    have hfold : gap a[i].1 a[i].2.1 = gapP a[i] := rfl
    rw [hfold]
    generalize gapP a[i] = g at *
    by_cases h0 : g = 0
    · subst h0
      simp only [Int.lt_irrefl, decide_false, cond_false, if_true]
      exact ih (i + 1) m u (by omega) (by omega) hu1 hu2
    · have hpos : 0 < g := by omega
      rw [if_neg h0] at hst ⊢
      simp only [hpos, decide_true, cond_true]
      have hw : minI 1000000000 (IntKind.i64.wrap (u * IntKind.i64.wrap (IntKind.i64.wrap (4 * IntKind.i64.wrap (minI g 1000000000)) - 1))) = min 1000000000 (u * (4 * min g 1000000000 - 1)) := by
        rw [minI_eq, minI_eq]
        have hm1 : 1 ≤ min g 1000000000 := by omega
        have hm2 : min g 1000000000 ≤ 1000000000 := by omega
        generalize min g 1000000000 = q at *
        rw [wrap_i64 (x := q) (by omega) (by omega), wrap_i64 (x := 4 * q) (by omega) (by omega), wrap_i64 (x := 4 * q - 1) (by omega) (by omega)]
        have h3 : u * (4 * q - 1) ≤ 1000000000 * (4 * 1000000000 - 1) := Int.mul_le_mul (by omega) (by omega) (by omega) (by omega)
        have h4 := step_le (n := u) (g := q) hu1 (by omega)
        rw [wrap_i64 (by omega) (by omega)]
      rw [hw]
      exact ih (i + 1) m _ (by omega) (by omega) hst.1 hst.2
theorem impl_BoxUnits_eq {α : Type} (N : Nat) (w : Int) (b : BoxD) (k : Int → Option α) (hN : 1048576 < N) : impl_BoxUnits N w b k = k (boxUnits w b.1) := by
 rw [impl_BoxUnits.eq]
 unfold impl_BoxUnits.b boxUnits
 rw [impl_BoxOk_eq _ _ _ _ hN]
 cases h : boxOk w b.1
 ·simp
 ·obtain ⟨h1, h2, _⟩ := boxOk_len h
  have := impl_BoxUnits_loop N b.1 (by omega) (fun x => k x) b.1.length 0 N 1 (by omega) (by omega) (by omega) (by omega)
  simp only [List.drop_zero] at this
  simp only [Bool.not_true, cond_false, if_true]
  exact this
def blenF : Nat → Nat → Nat
 | 0, _ => 0
 | f + 1, n => if n = 0 then 0 else blenF f (n / 2) + 1
def blen (n : Nat) : Nat := blenF 64 n
theorem blenF_more : ∀ (f n : Nat), n < 2 ^ f → ∀ g, f ≤ g → blenF g n = blenF f n
  | 0, n, h, g, _ => by
    have : n = 0 := by simp at h; exact h
    subst this
    cases g <;> simp [blenF]
  | f + 1, n, h, g, hg => by
    obtain ⟨g, rfl⟩ : ∃ m, g = m + 1 := ⟨g - 1, by omega⟩
    unfold blenF
    split
    · rfl
    · rw [blenF_more f (n / 2) (by rw [Nat.pow_succ] at h; omega) g (by omega)]
theorem blen_step {n : Nat} (h : n < 2 ^ 64) (h0 : n ≠ 0) : blen n = blen (n / 2) + 1 := by
 unfold blen
 rw [show blenF 64 n = if n = 0 then 0 else blenF 63 (n / 2) + 1 from rfl, if_neg h0]
 rw [blenF_more 63 (n / 2) (by omega) 64 (by omega)]
theorem blen_shift {n : Nat} (h : n < 2 ^ 64) : ∀ k, 2 ^ k ≤ n → blen n = blen (n / 2 ^ k) + k
  | 0, _ => by simp
  | k + 1, hk => by
    have h2 : 2 ^ (k + 1) = 2 ^ k * 2 := Nat.pow_succ ..
    have h1 : 2 ^ k ≤ n := by omega
    rw [blen_shift h k h1]
    have h3 : n / 2 ^ k < 2 ^ 64 := Nat.lt_of_le_of_lt (Nat.div_le_self _ _) h
    have h4 : n / 2 ^ k ≠ 0 := by
      have := Nat.div_pos h1 (Nat.two_pow_pos k)
      omega
    rw [blen_step h3 h4, Nat.div_div_eq_div_mul, h2]; omega
theorem blen_le {n : Nat} : blen n ≤ 64 := by
  unfold blen
  have : ∀ f n, blenF f n ≤ f := by
    intro f
    induction f with
    | zero => intro n; simp [blenF]
    | succ f ih =>
      intro n
      unfold blenF
      split
      · omega
      · have := ih (n / 2); omega
  exact this 64 n
theorem spec_l4Halvings_loop {α : Type} (N : Nat) (k : Int → Option α) : ∀ (f n : Nat) (g c : Nat), g < 2 ^ f → f ≤ 64 → f < n → c + f ≤ 64 →
    spec_l4Halvings_L0 N n g c k = k ((c + blenF f g : Nat)) := by
  intro f
  induction f with
  | zero =>
    intro n g c h _ hn _
    obtain ⟨m, rfl⟩ : ∃ m, n = m + 1 := ⟨n - 1, by omega⟩
    have : g = 0 := by simp at h; exact h
    subst this
    rw [spec_l4Halvings_L0.succ]
    unfold spec_l4Halvings_L0r
    simp [blenF]
  | succ f ih =>
    intro n g c h hf hn hc
    obtain ⟨m, rfl⟩ : ∃ m, n = m + 1 := ⟨n - 1, by omega⟩
    rw [spec_l4Halvings_L0.succ]
    unfold spec_l4Halvings_L0r
    by_cases h0 : g = 0
    · subst h0
      simp [blenF]
    · have hp : (0 : Int) < (g : Int) := by omega
      have h64 : (2 : Nat) ^ (f + 1) ≤ 2 ^ 64 := Nat.pow_le_pow_right (by omega) hf
      have hw : IntKind.u64.wrap (Int.tdiv (g : Int) 2) = ((g / 2 : Nat) : Int) := by
        rw [Int.tdiv_eq_ediv_of_nonneg (by omega), wrap_u64 (by omega) (by omega)]; omega
      have hc' : IntKind.i64.wrap ((c : Int) + 1) = ((c + 1 : Nat) : Int) := succ_i (by omega)
      simp only [hp, decide_true, cond_true, hw, hc']
      rw [ih m (g / 2) (c + 1) (by rw [Nat.pow_succ] at h; omega) (by omega) (by omega) (by omega)]
      rw [show blenF (f + 1) g = if g = 0 then 0 else blenF f (g / 2) + 1 from rfl, if_neg h0]
      congr 2; omega
theorem spec_l4Halvings_eq {α : Type} (N : Nat) (g : Nat) (k : Int → Option α) (hg : g < 2 ^ 64) (hN : 1048576 < N) : spec_l4Halvings N g k = k (blen g : Nat) := by
 rw [spec_l4Halvings.eq]
 unfold spec_l4Halvings.b
 have := spec_l4Halvings_loop N k 64 N g 0 hg (by omega) (by omega) (by omega)
 simpa [blen] using this
theorem len8_ok : ∀ n : Nat, n < 256 → (⟨#[0, 1, 2, 2, 3, 3, 3, 3, 4, 4, 4, 4, 4, 4, 4, 4, 5, 5, 5, 5, 5, 5, 5, 5, 5, 5, 5, 5, 5, 5, 5, 5, 6, 6, 6, 6, 6, 6, 6, 6, 6, 6, 6, 6, 6, 6, 6, 6, 6, 6, 6, 6, 6, 6, 6, 6, 6, 6, 6, 6, 6, 6, 6, 6, 7, 7, 7, 7, 7, 7, 7, 7, 7, 7, 7, 7, 7, 7, 7, 7, 7, 7, 7, 7, 7, 7, 7, 7, 7, 7, 7, 7, 7, 7, 7, 7, 7, 7, 7, 7, 7, 7, 7, 7, 7, 7, 7, 7, 7, 7, 7, 7, 7, 7, 7, 7, 7, 7, 7, 7, 7, 7, 7, 7, 7, 7, 7, 7, 8, 8, 8, 8, 8, 8, 8, 8, 8, 8, 8, 8, 8, 8, 8, 8, 8, 8, 8, 8, 8, 8, 8, 8, 8, 8, 8, 8, 8, 8, 8, 8, 8, 8, 8, 8, 8, 8, 8, 8, 8, 8, 8, 8, 8, 8, 8, 8, 8, 8, 8, 8, 8, 8, 8, 8, 8, 8, 8, 8, 8, 8, 8, 8, 8, 8, 8, 8, 8, 8, 8, 8, 8, 8, 8, 8, 8, 8, 8, 8, 8, 8, 8, 8, 8, 8, 8, 8, 8, 8, 8, 8, 8, 8, 8, 8, 8, 8, 8, 8, 8, 8, 8, 8, 8, 8, 8, 8, 8, 8, 8, 8, 8, 8, 8, 8, 8, 8, 8, 8, 8, 8, 8, 8, 8, 8, 8, 8]⟩ : ByteArray)[n]? = some (UInt8.ofNat (blenF 64 n)) := by decide +kernel
theorem shr_nat {x k : Nat} (hk : k ≤ 64) : shrI .u64 (x : Int) (k : Int) = ((x / 2 ^ k : Nat) : Int) := by
 unfold shrI
 rw [Int.toNat_natCast, show (IntKind.u64).bits = 64 from rfl, Nat.min_eq_left hk, Int.fdiv_eq_ediv_of_nonneg _ (by exact Int.le_of_lt (Int.pow_pos (by omega)))]
 rw [Int.natCast_ediv, Int.natCast_pow]; rfl
set_option maxRecDepth 100000 in
theorem math_bits_Len64_eq {α : Type} (N : Nat) (x : Nat) (hx : x < 2 ^ 64) (k : Int → Option α) : math_bits_Len64 N x k = k (blen x : Nat) := by
 rw [math_bits_Len64.eq]
 unfold math_bits_Len64.b
 -- the first step
 have j1 : ∀ (k : Int → Int → Option α), math_bits_Len64_J1 N x 0 k = k ((if 4294967296 ≤ x then x / 2 ^ 32 else x : Nat)) ((if 4294967296 ≤ x then 32 else 0 : Nat)) := by
  intro k
  rw [math_bits_Len64_J1.eq]
  unfold math_bits_Len64_J1.b
  by_cases h : 4294967296 ≤ x
  ·have h' : (4294967296 : Int) ≤ (x : Int) := by omega
   have := shr_nat (x := x) (k := 32) (by omega)
   simp only [h, h', decide_true, cond_true, if_true]
   rw [show (32 : Int) = ((32 : Nat) : Int) from rfl, this]
  ·have h' : ¬ (4294967296 : Int) ≤ (x : Int) := by omega
   simp [h, h']
 have j4 : ∀ (y c : Nat) (k : Int → Int → Option α), c ≤ 64 → math_bits_Len64_J4 N y c k = k ((if 65536 ≤ y then y / 2 ^ 16 else y : Nat)) ((if 65536 ≤ y then c + 16 else c : Nat)) := by
  intro y c k hc
  rw [math_bits_Len64_J4.eq]
  unfold math_bits_Len64_J4.b
  by_cases h : 65536 ≤ y
  ·have h' : (65536 : Int) ≤ (y : Int) := by omega
   have := shr_nat (x := y) (k := 16) (by omega)
   simp only [h, h', decide_true, cond_true, if_true]
   rw [show (16 : Int) = ((16 : Nat) : Int) from rfl, this, wrap_i64 (by omega) (by omega)]
   rfl
  ·have h' : ¬ (65536 : Int) ≤ (y : Int) := by omega
   simp [h, h']
 have j7 : ∀ (y c : Nat) (k : Int → Int → Option α), c ≤ 64 → math_bits_Len64_J7 N y c k = k ((if 256 ≤ y then y / 2 ^ 8 else y : Nat)) ((if 256 ≤ y then c + 8 else c : Nat)) := by
  intro y c k hc
  rw [math_bits_Len64_J7.eq]
  unfold math_bits_Len64_J7.b
  by_cases h : 256 ≤ y
  ·have h' : (256 : Int) ≤ (y : Int) := by omega
   have := shr_nat (x := y) (k := 8) (by omega)
   simp only [h, h', decide_true, cond_true, if_true]
   rw [show (8 : Int) = ((8 : Nat) : Int) from rfl, this, wrap_i64 (by omega) (by omega)]
   rfl
  ·have h' : ¬ (256 : Int) ≤ (y : Int) := by omega
   simp [h, h']
 -- what the steps keep
 have keep : ∀ (y c t b : Nat), blen x = blen y + c → y < 2 ^ 64 → t = 2 ^ b → blen x = blen (if t ≤ y then y / 2 ^ b else y) + (if t ≤ y then c + b else c) := by
  intro y c t b h hy ht
  by_cases hle : t ≤ y
  ·rw [if_pos hle, if_pos hle, h, blen_shift hy b (by omega)]; omega
  ·rw [if_neg hle, if_neg hle, h]
 have k1 := keep x 0 4294967296 32 (by simp) hx (by decide)
 simp only [Nat.zero_add] at k1
 rw [j1]
 generalize hy1 : (if 4294967296 ≤ x then x / 2 ^ 32 else x) = y1 at *
 generalize hc1 : (if 4294967296 ≤ x then 32 else 0) = c1 at *
 have b1 : y1 < 4294967296 := by
  subst hy1; split <;> omega
 have cc1 : c1 ≤ 32 := by subst hc1; split <;> omega
 have k2 := keep y1 c1 65536 16 k1 (by omega) (by decide)
 simp only [j4 y1 c1 _ (by omega)]
 generalize hy2 : (if 65536 ≤ y1 then y1 / 2 ^ 16 else y1) = y2 at *
 generalize hc2 : (if 65536 ≤ y1 then c1 + 16 else c1) = c2 at *
 have b2 : y2 < 65536 := by
  subst hy2; split <;> omega
 have cc2 : c2 ≤ 48 := by subst hc2; split <;> omega
 have k3 := keep y2 c2 256 8 k2 (by omega) (by decide)
 simp only [j7 y2 c2 _ (by omega)]
 generalize hy3 : (if 256 ≤ y2 then y2 / 2 ^ 8 else y2) = y3 at *
 generalize hc3 : (if 256 ≤ y2 then c2 + 8 else c2) = c3 at *
 have b3 : y3 < 256 := by
  subst hy3; split <;> omega
 have cc3 : c3 ≤ 56 := by subst hc3; split <;> omega
 have hw : IntKind.u8.wrap (y3 : Int) = (y3 : Int) := by
  have : IntKind.u8.wrap (y3 : Int) = (y3 : Int) % 256 := by simp [IntKind.wrap, IntKind.bits, IntKind.signed]
  rw [this]; omega
 simp only [hw, cast_neg, cond_false, Int.toNat_natCast, len8_ok y3 b3]
 have hb := @blen_le y3
 have hu : (UInt8.ofNat (blenF 64 y3)).toNat = blen y3 := by
  rw [UInt8.toNat_ofNat']
  unfold blen at hb
  unfold blen; omega
 rw [hu, wrap_i64 (x := ((blen y3 : Nat) : Int)) (by omega) (by omega), wrap_i64 (by omega) (by omega), k3]
 congr 1; omega
def pathFold : Nat → List PairD → Nat
 | n, [] => n
 | n, p :: r => pathFold (n + blen (gapP p).toNat) r
def boxPath (w : Int) (b : List PairD) : Int := if boxOk w b = true then (pathFold 1 b : Nat) else 0
theorem gapP_nat (p : PairD) : gapP p = ((gapP p).toNat : Int) ∧ (gapP p).toNat < 2 ^ 64 := by
 have := gapP_nonneg p
 omega
theorem spec_BoxPath_loop {α : Type} (N : Nat) (hN : 1048576 < N) (a : BoxD) (hb : a.1.length ≤ 6) (k : Int → Option α) : ∀ (d i n u : Nat), i + d = a.1.length → d < n → u ≤ 1 + 64 * i →
    spec_BoxPath_L0 N n u i a k = k (pathFold u (a.1.drop i) : Nat) := by
  intro d
  induction d with
  | zero =>
    intro i n u h hn hu
    obtain ⟨m, rfl⟩ : ∃ m, n = m + 1 := ⟨n - 1, by omega⟩
    rw [spec_BoxPath_L0.succ]
    unfold spec_BoxPath_L0r
    simp only [cast_nlt (show ¬ i < a.1.length by omega), cond_false]
    rw [List.drop_of_length_le (by omega)]; simp [pathFold]
  | succ d ih =>
    intro i n u h hn hu
    obtain ⟨m, rfl⟩ : ∃ m, n = m + 1 := ⟨n - 1, by omega⟩
    have hi : i < a.1.length := by omega
    rw [spec_BoxPath_L0.succ]
    unfold spec_BoxPath_L0r
    have hfold : gap a.1[i].1 a.1[i].2.1 = gapP a.1[i] := rfl
    obtain ⟨g1, g2⟩ := gapP_nat a.1[i]
    have hs := fun k => spec_l4Halvings_eq (α := α) N (gapP a.1[i]).toNat k g2 hN
    rw [← g1] at hs
    have hbl := @blen_le (gapP a.1[i]).toNat
    simp only [cast_lt hi, cast_neg, cond_true, cond_false, Int.toNat_natCast, List.getElem?_eq_getElem hi, spec_l3Gap_eq, hfold, hs, succ_i (show i < 4611686018427387904 by omega)]
    have e1 := List.drop_eq_getElem_cons hi
    rw [e1, pathFold, wrap_i64 (by omega) (by omega)]
    exact ih (i + 1) m (u + blen (gapP a.1[i]).toNat) (by omega) (by omega) (by omega)
theorem spec_BoxPath_eq {α : Type} (N : Nat) (w : Int) (b : BoxD) (k : Int → Option α) (hN : 1048576 < N) : spec_BoxPath N w b k = k (boxPath w b.1) := by
 rw [spec_BoxPath.eq]
 unfold spec_BoxPath.b boxPath
 rw [spec_BoxOk_eq _ _ _ _ hN]
 cases h : boxOk w b.1
 ·simp
 ·obtain ⟨h1, h2, _⟩ := boxOk_len h
  have := spec_BoxPath_loop N hN b h2 (fun x => k x) b.1.length 0 N 1 (by omega) (by omega) (by omega)
  simp only [List.drop_zero] at this
  simp only [Bool.not_true, cond_false, if_true]
  exact this
theorem impl_BoxPath_loop {α : Type} (N : Nat) (a : List PairD) (hb : a.length ≤ 6) (k : Int → Option α) : ∀ (d i n u : Nat), i + d = a.length → d < n → u ≤ 1 + 64 * i →
    impl_BoxPath_L0 N n u a a.length i k = k (pathFold u (a.drop i) : Nat) := by
  intro d
  induction d with
  | zero =>
    intro i n u h hn hu
    obtain ⟨m, rfl⟩ : ∃ m, n = m + 1 := ⟨n - 1, by omega⟩
    rw [impl_BoxPath_L0.succ]
    unfold impl_BoxPath_L0r
    simp only [cast_nlt (show ¬ i < a.length by omega), cond_false]
    rw [List.drop_of_length_le (by omega)]; simp [pathFold]
  | succ d ih =>
    intro i n u h hn hu
    obtain ⟨m, rfl⟩ : ∃ m, n = m + 1 := ⟨n - 1, by omega⟩
    have hi : i < a.length := by omega
    rw [impl_BoxPath_L0.succ]
    unfold impl_BoxPath_L0r
    have hfold : gap a[i].1 a[i].2.1 = gapP a[i] := rfl
    obtain ⟨g1, g2⟩ := gapP_nat a[i]
    have hs := fun k => math_bits_Len64_eq (α := α) N (gapP a[i]).toNat g2 k
    rw [← g1] at hs
    have hbl := @blen_le (gapP a[i]).toNat
    simp only [cast_lt hi, cast_neg, cond_true, cond_false, Int.toNat_natCast, List.getElem?_eq_getElem hi, impl_Pair_steps_eq, hfold, hs, succ_i (show i < 4611686018427387904 by omega)]
    have e1 := List.drop_eq_getElem_cons hi
    rw [e1, pathFold, wrap_i64 (by omega) (by omega)]
    exact ih (i + 1) m (u + blen (gapP a[i]).toNat) (by omega) (by omega) (by omega)
theorem impl_BoxPath_eq {α : Type} (N : Nat) (w : Int) (b : BoxD) (k : Int → Option α) (hN : 1048576 < N) : impl_BoxPath N w b k = k (boxPath w b.1) := by
 rw [impl_BoxPath.eq]
 unfold impl_BoxPath.b boxPath
 rw [impl_BoxOk_eq _ _ _ _ hN]
 cases h : boxOk w b.1
 ·simp
 ·obtain ⟨h1, h2, _⟩ := boxOk_len h
  have := impl_BoxPath_loop N b.1 h2 (fun x => k x) b.1.length 0 N 1 (by omega) (by omega) (by omega)
  simp only [List.drop_zero] at this
  simp only [Bool.not_true, cond_false, if_true]
  exact this
end Go.Proofs.YtbaeipjjijdgiaaAm
