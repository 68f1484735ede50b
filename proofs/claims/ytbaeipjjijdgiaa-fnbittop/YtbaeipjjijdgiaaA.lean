/-
  What the functions on bits and pairs compute, in plain words.
-/
import Derived.Test.YtbaeipjjijdgiaaFns
namespace Go.Proofs.YtbaeipjjijdgiaaAm
open Go
set_option linter.unusedVariables false
set_option linter.unusedSimpArgs false

def top (w : Int) : Int := if w = 32 then 2139095040 else if w = 64 then 9218868437227405312 else 0
def bitOk (w o : Int) : Bool := decide (w = 32 ∨ w = 64) && decide (-top w ≤ o) && decide (o ≤ top w)
abbrev PairD := Int × Int × Unit
def pairOk (w : Int) (p : PairD) : Bool := bitOk w p.1 && bitOk w p.2.1 && decide (p.1 ≤ p.2.1) && decide (p.1 ≠ top w) && decide (p.2.1 ≠ -top w)
def gap (lo hi : Int) : Int := if hi < lo then 0 else IntKind.u64.wrap (hi - lo)
theorem u64w (x : Int) : IntKind.u64.wrap x = x % 18446744073709551616 := by
 simp [IntKind.wrap, IntKind.bits, IntKind.signed]
theorem i64w (x : Int) : IntKind.i64.wrap x = (x + 9223372036854775808) % 18446744073709551616 - 9223372036854775808 := by
 have h1 : (2 : Int) ^ 64 = 18446744073709551616 := rfl
 have h2 : (2 : Int) ^ (64 - 1) = 9223372036854775808 := rfl
 simp only [IntKind.wrap, IntKind.bits, IntKind.signed, Bool.true_and, decide_eq_true_eq, h1, h2]
 split <;> omega
theorem wrap_i64 {x : Int} (h1 : -9223372036854775808 ≤ x) (h2 : x ≤ 9223372036854775807) : IntKind.i64.wrap x = x := by
 simp only [u64w, i64w]
 omega
theorem top_nonneg (w : Int) : 0 ≤ top w ∧ top w ≤ 9218868437227405312 := by unfold top; split <;> (try split) <;> omega
theorem wrap_neg_top (w : Int) : IntKind.i64.wrap (0 - top w) = -top w := by
 have := top_nonneg w
 rw [wrap_i64 (by omega) (by omega)]; omega
theorem wrap_u64 {x : Int} (h1 : 0 ≤ x) (h2 : x ≤ 18446744073709551615) : IntKind.u64.wrap x = x := by
 simp only [u64w, i64w]
 omega
theorem gap_wraps (a b : Int) : IntKind.u64.wrap (IntKind.u64.wrap b - IntKind.u64.wrap a) = IntKind.u64.wrap (b - a) := by
 simp only [u64w, i64w]
 omega
theorem spec_BitTop_eq {α : Type} (N : Nat) (w : Int) (k : Int → Option α) : spec_BitTop N w k = k (top w) := by
 rw [spec_BitTop.eq]
 unfold spec_BitTop.b top
 by_cases h1 : w = 32
 ·simp [h1]
 ·by_cases h2 : w = 64 <;> simp [h1, h2]
theorem spec_l1Width_eq {α : Type} (N : Nat) (w : Int) (k : Bool → Option α) : spec_l1Width N w k = k (decide (w = 32 ∨ w = 64)) := by
 rw [spec_l1Width.eq]
 unfold spec_l1Width.b
 by_cases h1 : w = 32 <;> simp [h1]
theorem spec_BitOk_eq {α : Type} (N : Nat) (w o : Int) (k : Bool → Option α) : spec_BitOk N w o k = k (bitOk w o) := by
 rw [spec_BitOk.eq]
 unfold spec_BitOk.b bitOk
 simp only [spec_l1Width_eq, spec_BitTop_eq, wrap_neg_top]
 by_cases h1 : w = 32 ∨ w = 64 <;> by_cases h2 : -top w ≤ o <;> simp [h1, h2]
theorem spec_PairOk_eq {α : Type} (N : Nat) (w : Int) (p : PairD) (k : Bool → Option α) : spec_PairOk N w p k = k (pairOk w p) := by
 rw [spec_PairOk.eq]
 unfold spec_PairOk.b pairOk
 simp only [spec_BitOk_eq, spec_BitTop_eq, wrap_neg_top]
 cases h1 : bitOk w p.1
 ·simp
 cases h2 : bitOk w p.2.1
 ·simp
 simp only [bitOk, Bool.and_eq_true, decide_eq_true_eq] at h1 h2
 by_cases h3 : p.1 ≤ p.2.1
 ·by_cases h4 : p.1 < top w
  ·have h5 : p.1 ≠ top w := by omega
   have h6 : (p.2.1 ≠ -top w) ↔ -top w < p.2.1 := by omega
   simp [h3, h4, h5, h6]
  ·have h5 : p.1 = top w := by omega
   simp [h3, h4, h5]
 ·simp [h3]
theorem spec_BitGap_eq {α : Type} (N : Nat) (a b : Int) (k : Int → Option α) : spec_BitGap N a b k = k (gap a b) := by
 rw [spec_BitGap.eq]
 unfold spec_BitGap.b gap
 by_cases h : b < a <;> simp [h, gap_wraps]
theorem spec_l3Gap_eq {α : Type} (N : Nat) (p : PairD) (k : Int → Option α) : spec_l3Gap N p k = k (gap p.1 p.2.1) := by
 rw [spec_l3Gap.eq]
 unfold spec_l3Gap.b
 rw [spec_BitGap_eq]
def fmtOf (w : Int) : Int × Int × Int × Int × Unit := if w = 32 then (23, -149, 127, 2139095040, ()) else if w = 64 then (52, -1074, 1023, 9218868437227405312, ()) else (0, 0, 0, 0, ())
theorem fmtOf_top (w : Int) : (fmtOf w).2.2.2.1 = top w := by
 unfold fmtOf top
 split
 ·rfl
 ·split <;> rfl
theorem impl_formatOf_eq {α : Type} (N : Nat) (w : Int) (k : (Int × Int × Int × Int × Unit) → Bool → Option α) : impl_formatOf N w k = k (fmtOf w) (decide (w = 32 ∨ w = 64)) := by
 rw [impl_formatOf.eq]
 unfold impl_formatOf.b fmtOf
 by_cases h1 : w = 32
 ·simp [h1]
 ·by_cases h2 : w = 64 <;> simp [h1, h2]
theorem impl_BitTop_eq {α : Type} (N : Nat) (w : Int) (k : Int → Option α) : impl_BitTop N w k = k (top w) := by
 rw [impl_BitTop.eq]
 unfold impl_BitTop.b
 rw [impl_formatOf_eq, fmtOf_top]
theorem impl_in_eq {α : Type} (N : Nat) (n lo hi : Int) (k : Bool → Option α) : impl_in N n lo hi k = k (decide (lo ≤ n) && decide (n ≤ hi)) := by
 rw [impl_in.eq]
 unfold impl_in.b
 by_cases h : lo ≤ n <;> simp [h]
theorem impl_BitOk_eq {α : Type} (N : Nat) (w o : Int) (k : Bool → Option α) : impl_BitOk N w o k = k (bitOk w o) := by
 rw [impl_BitOk.eq]
 unfold impl_BitOk.b bitOk
 simp only [impl_formatOf_eq, impl_in_eq, fmtOf_top, wrap_neg_top]
 by_cases h1 : w = 32 ∨ w = 64 <;> simp [h1]
theorem impl_PairOk_eq {α : Type} (N : Nat) (w : Int) (p : PairD) (k : Bool → Option α) : impl_PairOk N w p k = k (pairOk w p) := by
 rw [impl_PairOk.eq]
 unfold impl_PairOk.b pairOk
 simp only [impl_BitOk_eq, impl_BitTop_eq, wrap_neg_top]
 cases h1 : bitOk w p.1
 ·simp
 cases h2 : bitOk w p.2.1
 ·simp
 by_cases h3 : p.1 ≤ p.2.1
 ·by_cases h4 : p.1 = top w <;> simp [h3, h4]
 ·simp [h3]
theorem impl_BitGap_eq {α : Type} (N : Nat) (a b : Int) (k : Int → Option α) : impl_BitGap N a b k = k (gap a b) := by
 rw [impl_BitGap.eq]
 unfold impl_BitGap.b gap
 by_cases h : b < a <;> simp [h, gap_wraps]
theorem impl_Pair_steps_eq {α : Type} (N : Nat) (p : PairD) (k : Int → Option α) : impl_Pair_steps N p k = k (gap p.1 p.2.1) := by
 rw [impl_Pair_steps.eq]
 unfold impl_Pair_steps.b
 rw [impl_BitGap_eq]
def middle (a b : Int) : Int := IntKind.i64.wrap (a + (gap a b).tdiv 2)
theorem middle_i (a b : Int) : IntKind.i64.wrap (a + IntKind.i64.wrap (IntKind.u64.wrap ((gap a b).tdiv 2))) = middle a b := by
 unfold middle
 simp only [u64w, i64w]
 omega
theorem impl_BitMiddle_eq {α : Type} (N : Nat) (a b : Int) (k : Int → Option α) : impl_BitMiddle N a b k = k (middle a b) := by
 rw [impl_BitMiddle.eq]
 unfold impl_BitMiddle.b
 simp only [impl_BitGap_eq, middle_i]
def p0 : PairD := (0, 0, ())
def pairSplit (w : Int) (p : PairD) : PairD × PairD × Bool :=
 if pairOk w p = true ∧ ¬ gap p.1 p.2.1 < 2 then ((p.1, middle p.1 p.2.1, ()), (middle p.1 p.2.1, p.2.1, ()), true) else (p0, p0, false)
theorem impl_PairSplit_eq {α : Type} (N : Nat) (w : Int) (p : PairD) (k : PairD → PairD → Bool → Option α) : impl_PairSplit N w p k = k (pairSplit w p).1 (pairSplit w p).2.1 (pairSplit w p).2.2 := by
 rw [impl_PairSplit.eq]
 unfold impl_PairSplit.b pairSplit
 simp only [impl_PairOk_eq, impl_Pair_steps_eq, impl_BitMiddle_eq]
 cases h1 : pairOk w p
 ·simp [p0]
 ·by_cases h2 : gap p.1 p.2.1 < 2 <;> simp [h2, p0]
end Go.Proofs.YtbaeipjjijdgiaaAm
