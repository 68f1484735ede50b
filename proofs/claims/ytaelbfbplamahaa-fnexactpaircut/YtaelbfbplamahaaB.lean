/-
  What the functions on boxes compute, in plain words.
-/
import Derived.Test.YtaelbfbplamahaaA
namespace Go.Proofs.YtaelbfbplamahaaAm
open Go
set_option linter.unusedVariables false
set_option linter.unusedSimpArgs false

theorem cast_lt {i n : Nat} (h : i < n) : decide ((i : Int) < (n : Int)) = true := by simpa using h
theorem cast_nlt {i n : Nat} (h : ¬ i < n) : decide ((i : Int) < (n : Int)) = false := by simpa using h
theorem cast_neg (i : Nat) : decide ((i : Int) < 0) = false := by simp
theorem cast_nn (i : Nat) : decide ((0 : Int) ≤ (i : Int)) = true := by simp
theorem succ_i {i : Nat} (h : i < 4611686018427387904) : IntKind.i64.wrap ((i : Int) + 1) = ((i + 1 : Nat) : Int) := by
  rw [wrap_i64 (by omega) (by omega)]; rfl
abbrev BoxD := List PairD × Unit
def boxOk (w : Int) (b : List PairD) : Bool := decide (1 ≤ b.length) && decide (b.length ≤ 6) && b.all (pairOk w)
theorem boxOk_len {w : Int} {b : List PairD} (h : boxOk w b = true) : 1 ≤ b.length ∧ b.length ≤ 6 ∧ ∀ p ∈ b, pairOk w p = true := by
  simpa [boxOk, and_assoc] using h
def gapP (p : PairD) : Int := gap p.1 p.2.1
/-- The place of the first greatest gap, behind what has been seen. -/
def widest (b : List PairD) : Nat → Nat → List PairD → Nat
  | at', _, [] => at'
  | at', i, p :: r => widest b (if gapP (b.getD at' p0) < gapP p then i else at') (i + 1) r
theorem widest_lt {b : List PairD} : ∀ (r : List PairD) (at' i : Nat), at' < b.length → i + r.length ≤ b.length → widest b at' i r < b.length
  | [], at', i, h, _ => h
  | p :: r, at', i, h, hl => by
    simp only [List.length_cons] at hl
    unfold widest
    refine widest_lt r _ _ ?_ (by omega)
    split <;> omega
def boxWidest (w : Int) (b : List PairD) : Int := if boxOk w b = true then (widest b 0 1 (b.drop 1) : Nat) else -1
theorem widest_first (b : List PairD) (h : 0 < b.length) : widest b 0 0 b = widest b 0 1 (b.drop 1) := by
  cases b with
  | nil => simp at h
  | cons p r =>
    rw [widest]
    simp
theorem minI_eq (a b : Int) : minI a b = min a b := by unfold minI; omega
theorem maxI_eq (a b : Int) : maxI a b = max a b := by unfold maxI; omega
def most (n : Int) : Int := max 1 (min 1000000 n) + 1
def boxFine (w : Int) (b : List PairD) (n : Int) : Bool := boxOk w b && b.all fun p => decide (gapP p ≤ most n)
def unitsFold : Int → List PairD → Int
  | n, [] => n
  | n, p :: r => unitsFold (if gapP p = 0 then n else min 1000000000 (n * (4 * min (gapP p) 1000000000 - 1))) r
def boxUnits (w : Int) (b : List PairD) : Int := if boxOk w b = true then unitsFold 1 b else 0
theorem gap_nonneg (a b : Int) : 0 ≤ gap a b ∧ gap a b < 18446744073709551616 := by
  unfold gap
  split
  · omega
  · rw [u64w]; omega
theorem gapP_nonneg (p : PairD) : 0 ≤ gapP p ∧ gapP p < 18446744073709551616 := gap_nonneg _ _
theorem step_le {n g : Int} (hn : 1 ≤ n) (hg : 1 ≤ g) : n ≤ n * (4 * g - 1) := by
  have : n * 1 ≤ n * (4 * g - 1) := Int.mul_le_mul_of_nonneg_left (by omega) (by omega)
  omega
theorem units_step {n : Int} (hn : 1 ≤ n) (hn2 : n ≤ 1000000000) (p : PairD) : 1 ≤ (if gapP p = 0 then n else min 1000000000 (n * (4 * min (gapP p) 1000000000 - 1))) ∧ (if gapP p = 0 then n else min 1000000000 (n * (4 * min (gapP p) 1000000000 - 1))) ≤ 1000000000 := by
  have := gapP_nonneg p
  split
  · omega
  · have := step_le (g := min (gapP p) 1000000000) hn (by omega)
    omega
theorem units_full : ∀ (r : List PairD), unitsFold 1000000000 r = 1000000000
  | [] => rfl
  | p :: r => by
    unfold unitsFold
    have := gapP_nonneg p
    split
    · exact units_full r
    · have h2 := step_le (n := 1000000000) (g := min (gapP p) 1000000000) (by omega) (by omega)
      rw [Int.min_eq_left h2]
      exact units_full r
end Go.Proofs.YtaelbfbplamahaaAm
