/-
  Floats by their order numbers: parts, and the float of a number times a power of two: the arithmetic.
-/
import Derived.Test.YtlbihmicbncdiaaB
import Derived.Lib.TrailingZeros
namespace Go.Proofs.YtlbihmicbncdiaaAm
open Go
set_option linter.unusedVariables false
set_option linter.unusedSimpArgs false

def fracB (w : Int) : Nat := if w = 32 then 23 else 52
def leastB (w : Int) : Int := if w = 32 then -149 else -1074
def greatB (w : Int) : Int := if w = 32 then 127 else 1023
abbrev PartD := Bool × Int × Int × Unit
theorem blen_spec : ∀ (n : Nat), n < 2 ^ 64 → n ≠ 0 → ∃ k, blen n = k + 1 ∧ 2 ^ k ≤ n ∧ n < 2 ^ (k + 1) := by
  intro n
  induction n using Nat.strongRecOn with
  | ind n ih =>
    intro h h0
    rw [blen_step h h0]
    by_cases h1 : n / 2 = 0
    · refine ⟨0, by rw [h1]; rfl, by omega, by omega⟩
    · obtain ⟨k, e, a, b⟩ := ih (n / 2) (by omega) (by omega) h1
      refine ⟨k + 1, by rw [e], ?_, ?_⟩
      · rw [Nat.pow_succ]; omega
      · rw [Nat.pow_succ]; omega
theorem pow_lt_of {i j : Nat} (h : 2 ^ i < 2 ^ j) : i < j := (Nat.pow_lt_pow_iff_right (show 1 < 2 by omega)).1 h
theorem frac_great (w : Int) : greatB w = 1 - leastB w - fracB w ∧ fracB w ≤ 52 ∧ 1 ≤ fracB w ∧ -1074 ≤ leastB w ∧ leastB w ≤ -149 := by
  unfold greatB leastB fracB
  split <;> omega
/-- The part of a float, and whether there is one. -/
def partOf (w o : Int) : PartD × Bool :=
  if bitOk w o = true ∧ o ≠ top w ∧ o ≠ -top w then
    (if o.natAbs / 2 ^ fracB w = 0 then ((decide (o < 0), ((o.natAbs % 2 ^ fracB w : Nat) : Int), leastB w, ()), true)
     else ((decide (o < 0), ((o.natAbs % 2 ^ fracB w + 2 ^ fracB w : Nat) : Int), leastB w + (o.natAbs / 2 ^ fracB w : Nat) - 1, ()), true))
  else ((false, 0, 0, ()), false)
/-- Bits of numbers. -/
theorem borI {x y : Nat} (hx : x < 9223372036854775808) (hy : y < 9223372036854775808) : bitI .or .i64 (x : Int) (y : Int) = ((x ||| y : Nat) : Int) := by
  have h := Nat.or_lt_two_pow (n := 63) (by simpa using hx) (by simpa using hy)
  show IntKind.i64.wrap (((BitVec.ofInt 64 (x : Int) ||| BitVec.ofInt 64 (y : Int)).toNat : Nat) : Int) = _
  rw [BitVec.ofInt_natCast, BitVec.ofInt_natCast, BitVec.toNat_or, BitVec.toNat_ofNat, BitVec.toNat_ofNat]
  rw [Nat.mod_eq_of_lt (by omega), Nat.mod_eq_of_lt (by omega), wrap_i64 (by omega) (by omega)]
theorem bandI {x k : Nat} (hx : x < 9223372036854775808) (hk : k ≤ 62) : bitI .and .i64 (x : Int) ((2 ^ k - 1 : Nat) : Int) = ((x % 2 ^ k : Nat) : Int) := by
  have hp : 2 ^ k ≤ 2 ^ 62 := Nat.pow_le_pow_right (by omega) hk
  have h : x &&& (2 ^ k - 1) = x % 2 ^ k := Nat.and_two_pow_sub_one_eq_mod x k
  have hm := Nat.mod_le x (2 ^ k)
  show IntKind.i64.wrap (((BitVec.ofInt 64 (x : Int) &&& BitVec.ofInt 64 ((2 ^ k - 1 : Nat) : Int)).toNat : Nat) : Int) = _
  rw [BitVec.ofInt_natCast, BitVec.ofInt_natCast, BitVec.toNat_and, BitVec.toNat_ofNat, BitVec.toNat_ofNat]
  rw [Nat.mod_eq_of_lt (by omega), Nat.mod_eq_of_lt (show 2 ^ k - 1 < 2 ^ 64 by omega), h, wrap_i64 (by omega) (by omega)]
theorem shrN {q : IntKind} {x k : Nat} (hq : q.bits = 64) (hk : k ≤ 64) : shrI q (x : Int) (k : Int) = ((x / 2 ^ k : Nat) : Int) := by
  unfold shrI
  have h1 : min (k : Int).toNat (IntKind.bits q) = k := by rw [hq]; omega
  have h2 : (0 : Int) ≤ 2 ^ k := Int.le_of_lt (Int.pow_pos (by decide))
  rw [h1, Int.fdiv_eq_ediv_of_nonneg _ h2, show (2 : Int) ^ k = ((2 ^ k : Nat) : Int) from (Int.natCast_pow 2 k).symm]; rfl
theorem shlN {x k : Nat} (hk : k ≤ 64) (hb : x * 2 ^ k < 9223372036854775808) : shlI .i64 (x : Int) (k : Int) = ((x * 2 ^ k : Nat) : Int) := by
  unfold shlI
  have h1 : min (k : Int).toNat (IntKind.bits .i64) = k := by simp [IntKind.bits]; omega
  rw [h1, show (2 : Int) ^ k = ((2 ^ k : Nat) : Int) from (Int.natCast_pow 2 k).symm, ← Int.natCast_mul, wrap_i64 (by omega) (by omega)]
theorem orAdd {u v r : Nat} (h : u < 2 ^ r) : v * 2 ^ r ||| u = v * 2 ^ r + u := by
  have := Nat.shiftLeft_add_eq_or_of_lt h v
  rw [Nat.shiftLeft_eq] at this
  exact this.symm
theorem tdivN (a b : Nat) : Int.tdiv (a : Int) (b : Int) = ((a / b : Nat) : Int) := rfl
theorem tmodN (a b : Nat) : Int.tmod (a : Int) (b : Int) = ((a % b : Nat) : Int) := rfl
theorem pow_le_52 {F : Nat} (h : F ≤ 52) : 2 ^ F ≤ 4503599627370496 := Nat.pow_le_pow_right (n := 2) (by omega) h
theorem fmt_eq {w : Int} (h : w = 32 ∨ w = 64) : fmtOf w = ((fracB w : Int), leastB w, greatB w, top w, ()) := by rcases h with rfl | rfl <;> rfl
theorem top_eq {w : Int} (h : w = 32 ∨ w = 64) : top w = (((2 * greatB w + 1).toNat * 2 ^ fracB w : Nat) : Int) := by rcases h with rfl | rfl <;> rfl
theorem bitOk_w {w o : Int} (h : bitOk w o = true) : (w = 32 ∨ w = 64) ∧ -top w ≤ o ∧ o ≤ top w := by
  simp only [bitOk, Bool.and_eq_true, decide_eq_true_eq] at h
  exact ⟨h.1.1, h.1.2, h.2⟩
end Go.Proofs.YtlbihmicbncdiaaAm
