/-
  What the functions on bits and pairs compute, in plain words.
-/
import Derived.Test.YtlbihmicbncdiaaDoorFns
namespace Go.Proofs.YtlbihmicbncdiaaDoorAm
open Go
set_option linter.unusedVariables false
set_option linter.unusedSimpArgs false

def top (w : Int) : Int := if w = 32 then 2139095040 else if w = 64 then 9218868437227405312 else 0
def bitOk (w o : Int) : Bool := decide (w = 32 ∨ w = 64) && decide (-top w ≤ o) && decide (o ≤ top w)
abbrev PairD := Int × Int × Unit
def pairOk (w : Int) (p : PairD) : Bool := bitOk w p.1 && bitOk w p.2.1 && decide (p.1 ≤ p.2.1) && decide (p.1 ≠ top w) && decide (p.2.1 ≠ -top w)
def gap (lo hi : Int) : Int := if hi < lo then 0 else IntKind.u64.wrap (hi - lo)
def inI64 (x : Int) : Prop := -9223372036854775808 ≤ x ∧ x ≤ 9223372036854775807
theorem u64w (x : Int) : IntKind.u64.wrap x = x % 18446744073709551616 := by
  simp [IntKind.wrap, IntKind.bits, IntKind.signed]
theorem i64w (x : Int) : IntKind.i64.wrap x = (x + 9223372036854775808) % 18446744073709551616 - 9223372036854775808 := by
  have h1 : (2 : Int) ^ 64 = 18446744073709551616 := rfl
  have h2 : (2 : Int) ^ (64 - 1) = 9223372036854775808 := rfl
  simp only [IntKind.wrap, IntKind.bits, IntKind.signed, Bool.true_and, decide_eq_true_eq, h1, h2]
  split <;> omega
theorem wrap_i64 {x : Int} (h1 : -9223372036854775808 ≤ x) (h2 : x ≤ 9223372036854775807) : IntKind.i64.wrap x = x := by
  simp only [u64w, i64w]
  omega
theorem top_nonneg (w : Int) : 0 ≤ top w ∧ top w ≤ 9218868437227405312 := by unfold top; split <;> (try split) <;> omega
theorem wrap_neg_top (w : Int) : IntKind.i64.wrap (0 - top w) = -top w := by
  have := top_nonneg w
  rw [wrap_i64 (by omega) (by omega)]; omega
theorem wrap_u64 {x : Int} (h1 : 0 ≤ x) (h2 : x ≤ 18446744073709551615) : IntKind.u64.wrap x = x := by
  simp only [u64w, i64w]
  omega
theorem gap_wraps (a b : Int) : IntKind.u64.wrap (IntKind.u64.wrap b - IntKind.u64.wrap a) = IntKind.u64.wrap (b - a) := by
  simp only [u64w, i64w]
  omega
theorem spec_BitTop_eq {α : Type} (N : Nat) (w : Int) (k : Int → Option α) : spec_BitTop N w k = k (top w) := by
  rw [spec_BitTop.eq]
  unfold spec_BitTop.b top
  by_cases h1 : w = 32
  · simp [h1]
  · by_cases h2 : w = 64 <;> simp [h1, h2]
theorem spec_l1Width_eq {α : Type} (N : Nat) (w : Int) (k : Bool → Option α) : spec_l1Width N w k = k (decide (w = 32 ∨ w = 64)) := by
  rw [spec_l1Width.eq]
  unfold spec_l1Width.b
  by_cases h1 : w = 32 <;> simp [h1]
def fmtOf (w : Int) : Int × Int × Int × Int × Unit := if w = 32 then (23, -149, 127, 2139095040, ()) else if w = 64 then (52, -1074, 1023, 9218868437227405312, ()) else (0, 0, 0, 0, ())
theorem fmtOf_top (w : Int) : (fmtOf w).2.2.2.1 = top w := by
  unfold fmtOf top
  split
  · rfl
  · split <;> rfl
theorem impl_formatOf_eq {α : Type} (N : Nat) (w : Int) (k : (Int × Int × Int × Int × Unit) → Bool → Option α) : impl_formatOf N w k = k (fmtOf w) (decide (w = 32 ∨ w = 64)) := by
  rw [impl_formatOf.eq]
  unfold impl_formatOf.b fmtOf
  by_cases h1 : w = 32
  · simp [h1]
  · by_cases h2 : w = 64 <;> simp [h1, h2]
theorem impl_in_eq {α : Type} (N : Nat) (n lo hi : Int) (k : Bool → Option α) : impl_in N n lo hi k = k (decide (lo ≤ n) && decide (n ≤ hi)) := by
  rw [impl_in.eq]
  unfold impl_in.b
  by_cases h : lo ≤ n <;> simp [h]
def middle (a b : Int) : Int := IntKind.i64.wrap (a + (gap a b).tdiv 2)
theorem middle_s (a b : Int) : IntKind.i64.wrap (IntKind.u64.wrap (IntKind.u64.wrap a + IntKind.u64.wrap ((gap a b).tdiv 2))) = middle a b := by
  unfold middle
  simp only [u64w, i64w]
  omega
theorem middle_i (a b : Int) : IntKind.i64.wrap (a + IntKind.i64.wrap (IntKind.u64.wrap ((gap a b).tdiv 2))) = middle a b := by
  unfold middle
  simp only [u64w, i64w]
  omega
def p0 : PairD := (0, 0, ())
def pairSplit (w : Int) (p : PairD) : PairD × PairD × Bool :=
  if pairOk w p = true ∧ ¬ gap p.1 p.2.1 < 2 then ((p.1, middle p.1 p.2.1, ()), (middle p.1 p.2.1, p.2.1, ()), true) else (p0, p0, false)
def pairCut (w : Int) (p g : PairD) : PairD × PairD × Bool :=
  if pairOk w p = true ∧ ¬ g.2.1 ≤ g.1 ∧ pairOk w (p.1, g.1, ()) = true ∧ pairOk w (g.2.1, p.2.1, ()) = true then
    (if gap g.2.1 p.2.1 < gap p.1 g.1 then ((g.2.1, p.2.1, ()), (p.1, g.1, ()), true) else ((p.1, g.1, ()), (g.2.1, p.2.1, ()), true)) else (p0, p0, false)
end Go.Proofs.YtlbihmicbncdiaaDoorAm
