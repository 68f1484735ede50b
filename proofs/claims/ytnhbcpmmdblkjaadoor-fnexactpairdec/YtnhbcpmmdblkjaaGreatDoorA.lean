/-
  What the functions on bits and pairs compute, in plain words.
-/
import Derived.Test.YtnhbcpmmdblkjaaGreatDoorFns
namespace Go.Proofs.YtnhbcpmmdblkjaaGreatDoorAm
open Go
set_option linter.unusedVariables false
set_option linter.unusedSimpArgs false

def top (w : Int) : Int := if w = 32 then 2139095040 else if w = 64 then 9218868437227405312 else 0
abbrev PairD := Int × Int × Unit
theorem u64w (x : Int) : IntKind.u64.wrap x = x % 18446744073709551616 := by
 simp [IntKind.wrap, IntKind.bits, IntKind.signed]
theorem i64w (x : Int) : IntKind.i64.wrap x = (x + 9223372036854775808) % 18446744073709551616 - 9223372036854775808 := by
 have h1 : (2 : Int) ^ 64 = 18446744073709551616 := rfl
 have h2 : (2 : Int) ^ (64 - 1) = 9223372036854775808 := rfl
 simp only [IntKind.wrap, IntKind.bits, IntKind.signed, Bool.true_and, decide_eq_true_eq, h1, h2]
 split <;> omega
theorem wrap_i64 {x : Int} (h1 : -9223372036854775808 ≤ x) (h2 : x ≤ 9223372036854775807) : IntKind.i64.wrap x = x := by
 simp only [u64w, i64w]
 omega
theorem top_nonneg (w : Int) : 0 ≤ top w ∧ top w ≤ 9218868437227405312 := by unfold top; split <;> (try split) <;> omega
theorem wrap_u64 {x : Int} (h1 : 0 ≤ x) (h2 : x ≤ 18446744073709551615) : IntKind.u64.wrap x = x := by
 simp only [u64w, i64w]
 omega
theorem spec_BitTop_eq {α : Type} (N : Nat) (w : Int) (k : Int → Option α) : spec_BitTop N w k = k (top w) := by
 rw [spec_BitTop.eq]
 unfold spec_BitTop.b top
 by_cases h1 : w = 32
 ·simp [h1]
 ·by_cases h2 : w = 64 <;> simp [h1, h2]
theorem spec_l1Width_eq {α : Type} (N : Nat) (w : Int) (k : Bool → Option α) : spec_l1Width N w k = k (decide (w = 32 ∨ w = 64)) := by
 rw [spec_l1Width.eq]
 unfold spec_l1Width.b
 by_cases h1 : w = 32 <;> simp [h1]
def fmtOf (w : Int) : Int × Int × Int × Int × Unit := if w = 32 then (23, -149, 127, 2139095040, ()) else if w = 64 then (52, -1074, 1023, 9218868437227405312, ()) else (0, 0, 0, 0, ())
theorem impl_formatOf_eq {α : Type} (N : Nat) (w : Int) (k : (Int × Int × Int × Int × Unit) → Bool → Option α) : impl_formatOf N w k = k (fmtOf w) (decide (w = 32 ∨ w = 64)) := by
 rw [impl_formatOf.eq]
 unfold impl_formatOf.b fmtOf
 by_cases h1 : w = 32
 ·simp [h1]
 ·by_cases h2 : w = 64 <;> simp [h1, h2]
theorem impl_in_eq {α : Type} (N : Nat) (n lo hi : Int) (k : Bool → Option α) : impl_in N n lo hi k = k (decide (lo ≤ n) && decide (n ≤ hi)) := by
 rw [impl_in.eq]
 unfold impl_in.b
 by_cases h : lo ≤ n <;> simp [h]
theorem laws_eqPair_eq {α : Type} (N : Nat) (p q : PairD) (k : Bool → Option α) : laws_eqPair N p q k = k (decide (p = q)) := by
 rw [laws_eqPair.eq]
 unfold laws_eqPair.b
 obtain ⟨a, b, u⟩ := p
 obtain ⟨c, d, v⟩ := q
 by_cases h1 : a = c <;> by_cases h2 : b = d <;> simp [h1, h2]
end Go.Proofs.YtnhbcpmmdblkjaaGreatDoorAm
