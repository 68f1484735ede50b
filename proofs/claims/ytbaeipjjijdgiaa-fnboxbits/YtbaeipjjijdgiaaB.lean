/-
  What the functions on boxes compute, in plain words.
-/
import Derived.Test.YtbaeipjjijdgiaaA
namespace Go.Proofs.YtbaeipjjijdgiaaAm
open Go
set_option linter.unusedVariables false
set_option linter.unusedSimpArgs false

theorem cast_lt {i n : Nat} (h : i < n) : decide ((i : Int) < (n : Int)) = true := by simpa using h
theorem cast_nlt {i n : Nat} (h : ¬ i < n) : decide ((i : Int) < (n : Int)) = false := by simpa using h
theorem cast_neg (i : Nat) : decide ((i : Int) < 0) = false := by simp
theorem cast_nn (i : Nat) : decide ((0 : Int) ≤ (i : Int)) = true := by simp
theorem succ_i {i : Nat} (h : i < 4611686018427387904) : IntKind.i64.wrap ((i : Int) + 1) = ((i + 1 : Nat) : Int) := by
  rw [wrap_i64 (by omega) (by omega)]; rfl
abbrev BoxD := List PairD × Unit
def boxOk (w : Int) (b : List PairD) : Bool := decide (1 ≤ b.length) && decide (b.length ≤ 6) && b.all (pairOk w)
theorem boxOk_len {w : Int} {b : List PairD} (h : boxOk w b = true) : 1 ≤ b.length ∧ b.length ≤ 6 ∧ ∀ p ∈ b, pairOk w p = true := by
  simpa [boxOk, and_assoc] using h
theorem spec_BoxOk_loop {α : Type} (N : Nat) (w : Int) (a : BoxD) (hb : a.1.length < 4611686018427387904) (k : Bool → Option α) (k1 : Option α) : ∀ (d i n : Nat), i + d = a.1.length → d < n →
    spec_BoxOk_L0 N n w i a k k1 = if (a.1.drop i).all (pairOk w) = true then k1 else k false := by
  intro d
  induction d with
  | zero =>
    intro i n h hn
    obtain ⟨m, rfl⟩ : ∃ m, n = m + 1 := ⟨n - 1, by omega⟩
    rw [spec_BoxOk_L0.succ]
    unfold spec_BoxOk_L0r
    simp only [cast_nlt (show ¬ i < a.1.length by omega), cond_false]
    rw [List.drop_of_length_le (by omega)]; simp
  | succ d ih =>
    intro i n h hn
    obtain ⟨m, rfl⟩ : ∃ m, n = m + 1 := ⟨n - 1, by omega⟩
    have hi : i < a.1.length := by omega
    rw [spec_BoxOk_L0.succ]
    unfold spec_BoxOk_L0r
    simp only [cast_lt hi, cast_neg, cond_true, cond_false, Int.toNat_natCast, List.getElem?_eq_getElem hi, spec_PairOk_eq, succ_i (show i < 4611686018427387904 by omega)]
    have e1 := List.drop_eq_getElem_cons hi
    rw [ih (i + 1) m (by omega) (by omega), e1, List.all_cons]
    cases he : pairOk w a.1[i] <;> simp only [Bool.not_true, Bool.not_false, cond_true, cond_false, Bool.true_and, Bool.false_and, Bool.false_eq_true, if_false]
theorem spec_BoxOk_eq {α : Type} (N : Nat) (w : Int) (a : BoxD) (k : Bool → Option α) (hN : 1048576 < N) : spec_BoxOk N w a k = k (boxOk w a.1) := by
  rw [spec_BoxOk.eq]
  unfold spec_BoxOk.b boxOk
  by_cases h1 : 1 ≤ a.1.length
  · have g1 : ¬ ((a.1.length : Int) < 1) := by omega
    by_cases h2 : a.1.length ≤ 6
    · have g2 : ¬ ((6 : Int) < (a.1.length : Int)) := by omega
      have := spec_BoxOk_loop N w a (by omega) (fun x => k x) (k true) a.1.length 0 N (by omega) (by omega)
      simp only [List.drop_zero] at this
      simp only [g1, g2, decide_false, cond_false]
      rw [show ((0 : Int)) = ((0 : Nat) : Int) from rfl, this]
      cases he : a.1.all (pairOk w) <;> simp [h1, h2]
    · have g2 : ((6 : Int) < (a.1.length : Int)) := by omega
      simp [g1, g2, h2]
  · have g1 : ((a.1.length : Int) < 1) := by omega
    simp [g1, h1]
theorem impl_BoxOk_1_eq {α : Type} (N : Nat) (p : PairD) (w : Int) (k : Bool → Option α) : impl_BoxOk_1 N p w k = k (!pairOk w p) := by
  rw [impl_BoxOk_1.eq]
  unfold impl_BoxOk_1.b
  rw [impl_PairOk_eq]
theorem indexBoxOk_loop {α : Type} (N : Nat) (w : Int) (a : List PairD) (hb : a.length < 4611686018427387904) (k : Int → Option α) (k1 : Option α) : ∀ (d i n : Nat), i + d = a.length → d < n →
    slices_IndexFunc_impl_Pair_impl_Pair__impl_BoxOk_1_L0 N n a w a.length i k k1 = if (a.drop i).all (pairOk w) = true then k1 else k ((i + (a.drop i).findIdx (fun p => !pairOk w p) : Nat)) := by
  intro d
  induction d with
  | zero =>
    intro i n h hn
    obtain ⟨m, rfl⟩ : ∃ m, n = m + 1 := ⟨n - 1, by omega⟩
    rw [slices_IndexFunc_impl_Pair_impl_Pair__impl_BoxOk_1_L0.succ]
    unfold slices_IndexFunc_impl_Pair_impl_Pair__impl_BoxOk_1_L0r
    simp only [cast_nlt (show ¬ i < a.length by omega), cond_false]
    rw [List.drop_of_length_le (by omega)]; simp
  | succ d ih =>
    intro i n h hn
    obtain ⟨m, rfl⟩ : ∃ m, n = m + 1 := ⟨n - 1, by omega⟩
    have hi : i < a.length := by omega
    rw [slices_IndexFunc_impl_Pair_impl_Pair__impl_BoxOk_1_L0.succ]
    unfold slices_IndexFunc_impl_Pair_impl_Pair__impl_BoxOk_1_L0r
    simp only [cast_lt hi, cast_neg, cond_true, cond_false, Int.toNat_natCast, List.getElem?_eq_getElem hi, impl_BoxOk_1_eq, succ_i (show i < 4611686018427387904 by omega)]
    have e1 := List.drop_eq_getElem_cons hi
    rw [ih (i + 1) m (by omega) (by omega), e1, List.all_cons, List.findIdx_cons]
    cases he : pairOk w a[i]
    · simp
    · simp only [Bool.not_true, cond_false, Bool.true_and]
      split
      · rfl
      · congr 2; omega
theorem containsBoxOk_eq {α : Type} (N : Nat) (w : Int) (a : List PairD) (hb : a.length ≤ 1048576) (hN : 1048576 < N) (k : Bool → Option α) :
    slices_ContainsFunc_impl_Pair_impl_Pair__impl_BoxOk_1 N a w k = k (!a.all (pairOk w)) := by
  rw [slices_ContainsFunc_impl_Pair_impl_Pair__impl_BoxOk_1.eq]
  unfold slices_ContainsFunc_impl_Pair_impl_Pair__impl_BoxOk_1.b
  rw [slices_IndexFunc_impl_Pair_impl_Pair__impl_BoxOk_1.eq]
  unfold slices_IndexFunc_impl_Pair_impl_Pair__impl_BoxOk_1.b
  rw [show ((0 : Int)) = ((0 : Nat) : Int) from rfl, indexBoxOk_loop N w a (by omega) _ _ a.length 0 N (by omega) (by omega)]
  simp only [List.drop_zero]
  cases he : a.all (pairOk w)
  · simp [cast_nn]
  · simp
theorem impl_BoxOk_eq {α : Type} (N : Nat) (w : Int) (a : BoxD) (k : Bool → Option α) (hN : 1048576 < N) : impl_BoxOk N w a k = k (boxOk w a.1) := by
  rw [impl_BoxOk.eq]
  unfold impl_BoxOk.b boxOk
  simp only [impl_in_eq]
  by_cases h1 : 1 ≤ a.1.length
  · have g1 : ((1 : Int) ≤ (a.1.length : Int)) := by omega
    by_cases h2 : a.1.length ≤ 6
    · have g2 : ((a.1.length : Int) ≤ 6) := by omega
      simp only [g1, g2, decide_true, Bool.and_self, cond_true, containsBoxOk_eq N w a.1 (by omega) hN]
      simp [h1, h2]
    · have g2 : ¬ ((a.1.length : Int) ≤ 6) := by omega
      simp [g2, h2]
  · have g1 : ¬ ((1 : Int) ≤ (a.1.length : Int)) := by omega
    simp [g1, h1]
def gapP (p : PairD) : Int := gap p.1 p.2.1
/-- The place of the first greatest gap, behind what has been seen. -/
def widest (b : List PairD) : Nat → Nat → List PairD → Nat
  | at', _, [] => at'
  | at', i, p :: r => widest b (if gapP (b.getD at' p0) < gapP p then i else at') (i + 1) r
theorem widest_lt {b : List PairD} : ∀ (r : List PairD) (at' i : Nat), at' < b.length → i + r.length ≤ b.length → widest b at' i r < b.length
  | [], at', i, h, _ => h
  | p :: r, at', i, h, hl => by
    simp only [List.length_cons] at hl
    unfold widest
    refine widest_lt r _ _ ?_ (by omega)
    split <;> omega
def boxWidest (w : Int) (b : List PairD) : Int := if boxOk w b = true then (widest b 0 1 (b.drop 1) : Nat) else -1
theorem widest_first (b : List PairD) (h : 0 < b.length) : widest b 0 0 b = widest b 0 1 (b.drop 1) := by
  cases b with
  | nil => simp at h
  | cons p r =>
    rw [widest]
    simp
theorem minI_eq (a b : Int) : minI a b = min a b := by unfold minI; omega
theorem maxI_eq (a b : Int) : maxI a b = max a b := by unfold maxI; omega
def most (n : Int) : Int := max 1 (min 1000000 n) + 1
def boxFine (w : Int) (b : List PairD) (n : Int) : Bool := boxOk w b && b.all fun p => decide (gapP p ≤ most n)
def unitsFold : Int → List PairD → Int
  | n, [] => n
  | n, p :: r => unitsFold (if gapP p = 0 then n else min 1000000000 (n * (4 * min (gapP p) 1000000000 - 1))) r
def boxUnits (w : Int) (b : List PairD) : Int := if boxOk w b = true then unitsFold 1 b else 0
theorem gap_nonneg (a b : Int) : 0 ≤ gap a b ∧ gap a b < 18446744073709551616 := by
  unfold gap
  split
  · omega
  · rw [u64w]; omega
theorem gapP_nonneg (p : PairD) : 0 ≤ gapP p ∧ gapP p < 18446744073709551616 := gap_nonneg _ _
theorem step_le {n g : Int} (hn : 1 ≤ n) (hg : 1 ≤ g) : n ≤ n * (4 * g - 1) := by
  have : n * 1 ≤ n * (4 * g - 1) := Int.mul_le_mul_of_nonneg_left (by omega) (by omega)
  omega
theorem units_step {n : Int} (hn : 1 ≤ n) (hn2 : n ≤ 1000000000) (p : PairD) : 1 ≤ (if gapP p = 0 then n else min 1000000000 (n * (4 * min (gapP p) 1000000000 - 1))) ∧ (if gapP p = 0 then n else min 1000000000 (n * (4 * min (gapP p) 1000000000 - 1))) ≤ 1000000000 := by
  have := gapP_nonneg p
  split
  · omega
  · have := step_le (g := min (gapP p) 1000000000) hn (by omega)
    omega
theorem units_full : ∀ (r : List PairD), unitsFold 1000000000 r = 1000000000
  | [] => rfl
  | p :: r => by
    unfold unitsFold
    have := gapP_nonneg p
    split
    · exact units_full r
    · have h2 := step_le (n := 1000000000) (g := min (gapP p) 1000000000) (by omega) (by omega)
      rw [Int.min_eq_left h2]
      exact units_full r
/-- How many binary digits, for numbers below 2^64. -/
def blenF : Nat → Nat → Nat
  | 0, _ => 0
  | f + 1, n => if n = 0 then 0 else blenF f (n / 2) + 1
def blen (n : Nat) : Nat := blenF 64 n
theorem blenF_more : ∀ (f n : Nat), n < 2 ^ f → ∀ g, f ≤ g → blenF g n = blenF f n
  | 0, n, h, g, _ => by
    have : n = 0 := by simp at h; exact h
    subst this
    cases g <;> simp [blenF]
  | f + 1, n, h, g, hg => by
    obtain ⟨g, rfl⟩ : ∃ m, g = m + 1 := ⟨g - 1, by omega⟩
    unfold blenF
    split
    · rfl
    · rw [blenF_more f (n / 2) (by rw [Nat.pow_succ] at h; omega) g (by omega)]
theorem blen_step {n : Nat} (h : n < 2 ^ 64) (h0 : n ≠ 0) : blen n = blen (n / 2) + 1 := by
  unfold blen
  rw [show blenF 64 n = if n = 0 then 0 else blenF 63 (n / 2) + 1 from rfl, if_neg h0]
  rw [blenF_more 63 (n / 2) (by omega) 64 (by omega)]
theorem blen_shift {n : Nat} (h : n < 2 ^ 64) : ∀ k, 2 ^ k ≤ n → blen n = blen (n / 2 ^ k) + k
  | 0, _ => by simp
  | k + 1, hk => by
    have h2 : 2 ^ (k + 1) = 2 ^ k * 2 := Nat.pow_succ ..
    have h1 : 2 ^ k ≤ n := by omega
    rw [blen_shift h k h1]
    have h3 : n / 2 ^ k < 2 ^ 64 := Nat.lt_of_le_of_lt (Nat.div_le_self _ _) h
    have h4 : n / 2 ^ k ≠ 0 := by
      have := Nat.div_pos h1 (Nat.two_pow_pos k)
      omega
    rw [blen_step h3 h4, Nat.div_div_eq_div_mul, h2]; omega
theorem blen_le {n : Nat} : blen n ≤ 64 := by
  unfold blen
  have : ∀ f n, blenF f n ≤ f := by
    intro f
    induction f with
    | zero => intro n; simp [blenF]
    | succ f ih =>
      intro n
      unfold blenF
      split
      · omega
      · have := ih (n / 2); omega
  exact this 64 n
theorem len8_ok : ∀ n : Nat, n < 256 → (⟨#[0, 1, 2, 2, 3, 3, 3, 3, 4, 4, 4, 4, 4, 4, 4, 4, 5, 5, 5, 5, 5, 5, 5, 5, 5, 5, 5, 5, 5, 5, 5, 5, 6, 6, 6, 6, 6, 6, 6, 6, 6, 6, 6, 6, 6, 6, 6, 6, 6, 6, 6, 6, 6, 6, 6, 6, 6, 6, 6, 6, 6, 6, 6, 6, 7, 7, 7, 7, 7, 7, 7, 7, 7, 7, 7, 7, 7, 7, 7, 7, 7, 7, 7, 7, 7, 7, 7, 7, 7, 7, 7, 7, 7, 7, 7, 7, 7, 7, 7, 7, 7, 7, 7, 7, 7, 7, 7, 7, 7, 7, 7, 7, 7, 7, 7, 7, 7, 7, 7, 7, 7, 7, 7, 7, 7, 7, 7, 7, 8, 8, 8, 8, 8, 8, 8, 8, 8, 8, 8, 8, 8, 8, 8, 8, 8, 8, 8, 8, 8, 8, 8, 8, 8, 8, 8, 8, 8, 8, 8, 8, 8, 8, 8, 8, 8, 8, 8, 8, 8, 8, 8, 8, 8, 8, 8, 8, 8, 8, 8, 8, 8, 8, 8, 8, 8, 8, 8, 8, 8, 8, 8, 8, 8, 8, 8, 8, 8, 8, 8, 8, 8, 8, 8, 8, 8, 8, 8, 8, 8, 8, 8, 8, 8, 8, 8, 8, 8, 8, 8, 8, 8, 8, 8, 8, 8, 8, 8, 8, 8, 8, 8, 8, 8, 8, 8, 8, 8, 8, 8, 8, 8, 8, 8, 8, 8, 8, 8, 8, 8, 8, 8, 8, 8, 8, 8, 8]⟩ : ByteArray)[n]? = some (UInt8.ofNat (blenF 64 n)) := by decide +kernel
theorem shr_nat {x k : Nat} (hk : k ≤ 64) : shrI .u64 (x : Int) (k : Int) = ((x / 2 ^ k : Nat) : Int) := by
  unfold shrI
  rw [Int.toNat_natCast, show (IntKind.u64).bits = 64 from rfl, Nat.min_eq_left hk, Int.fdiv_eq_ediv_of_nonneg _ (by exact Int.le_of_lt (Int.pow_pos (by omega)))]
  rw [Int.natCast_ediv, Int.natCast_pow]; rfl
set_option maxRecDepth 100000 in
def pathFold : Nat → List PairD → Nat
  | n, [] => n
  | n, p :: r => pathFold (n + blen (gapP p).toNat) r
def boxPath (w : Int) (b : List PairD) : Int := if boxOk w b = true then (pathFold 1 b : Nat) else 0
theorem gapP_nat (p : PairD) : gapP p = ((gapP p).toNat : Int) ∧ (gapP p).toNat < 2 ^ 64 := by
  have := gapP_nonneg p
  omega
end Go.Proofs.YtbaeipjjijdgiaaAm
