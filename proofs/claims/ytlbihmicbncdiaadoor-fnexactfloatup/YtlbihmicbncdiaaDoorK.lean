/-
  What the functions on whole numbers compute, in plain words: quotients, divisors, roots, shifts; and the laws.
-/
import Derived.Test.YtlbihmicbncdiaaDoorW
namespace Go.Proofs.YtlbihmicbncdiaaDoorAm
open Go
set_option linter.unusedVariables false
set_option linter.unusedSimpArgs false

/-- A number, if it has no more digits than may be. -/
def fits (n : Nat) : List Int × Bool := if (digs n).length ≤ 256 then (digs n, true) else ([], false)
theorem fits_len (n : Nat) : (fits n).1.length ≤ 256 := by
  unfold fits
  split
  · assumption
  · exact Nat.zero_le _
theorem natOkB_len {l : List Int} (h : natOkB l = true) : l.length ≤ 256 := by
  obtain ⟨n, hn, rfl⟩ := natOkB_ex h
  exact digs_len_le hn
theorem natRoot_len (l : List Int) : (natRoot l).2.2.length ≤ 256 := by
  unfold natRoot
  split
  next h =>
    obtain ⟨a, ha, rfl⟩ := natOkB_ex h
    simp only [val_digs, Int.toNat_natCast]
    exact digs_len_le (rt_cap ha)
  next h => exact Nat.zero_le _
def natDiv (x y : List Int) : Bool × List Int × List Int :=
  if natOkB x = true ∧ natOkB y = true ∧ y.length ≠ 0 then (true, digs ((val x).toNat / (val y).toNat), digs ((val x).toNat % (val y).toNat)) else (false, [], [])
theorem natDiv_digs {a b : Nat} (ha : a < 65536 ^ 256) (hb : b < 65536 ^ 256) (h : b ≠ 0) : natDiv (digs a) (digs b) = (true, digs (a / b), digs (a % b)) := by
  unfold natDiv
  rw [if_pos ⟨natOkB_digs ha, natOkB_digs hb, fun e => h (digs_len_zero.1 e)⟩]
  simp only [val_digs, Int.toNat_natCast]
theorem div_cap {a : Nat} (b : Nat) (ha : a < 65536 ^ 256) : a / b < 65536 ^ 256 := Nat.lt_of_le_of_lt (Nat.div_le_self a b) ha
theorem mod_cap {a : Nat} (b : Nat) (ha : a < 65536 ^ 256) : a % b < 65536 ^ 256 := Nat.lt_of_le_of_lt (Nat.mod_le a b) ha
theorem natDiv_len (x y : List Int) : (natDiv x y).2.1.length ≤ 256 ∧ (natDiv x y).2.2.length ≤ 256 := by
  unfold natDiv
  split
  next h =>
    obtain ⟨a, ha, rfl⟩ := natOkB_ex h.1
    obtain ⟨b, hb, rfl⟩ := natOkB_ex h.2.1
    simp only [val_digs, Int.toNat_natCast]
    exact ⟨digs_len_le (div_cap b ha), digs_len_le (mod_cap b ha)⟩
  next h => exact ⟨Nat.zero_le _, Nat.zero_le _⟩
def natGcd (x y : List Int) : Bool × List Int := if natOkB x = true ∧ natOkB y = true then (true, digs (Nat.gcd (val x).toNat (val y).toNat)) else (false, [])
theorem natGcd_digs {a b : Nat} (ha : a < 65536 ^ 256) (hb : b < 65536 ^ 256) : natGcd (digs a) (digs b) = (true, digs (Nat.gcd a b)) := by
  unfold natGcd
  rw [if_pos ⟨natOkB_digs ha, natOkB_digs hb⟩]
  simp only [val_digs, Int.toNat_natCast]
theorem gcd_cap {a b : Nat} (ha : a < 65536 ^ 256) (hb : b < 65536 ^ 256) : Nat.gcd a b < 65536 ^ 256 := by
  by_cases h : a = 0
  · rw [h, Nat.gcd_zero_left]; exact hb
  · exact Nat.lt_of_le_of_lt (Nat.gcd_le_left b (Nat.pos_of_ne_zero h)) ha
theorem natGcd_len (x y : List Int) : (natGcd x y).2.length ≤ 256 := by
  unfold natGcd
  split
  next h =>
    obtain ⟨a, ha, rfl⟩ := natOkB_ex h.1
    obtain ⟨b, hb, rfl⟩ := natOkB_ex h.2
    simp only [val_digs, Int.toNat_natCast]
    exact digs_len_le (gcd_cap ha hb)
  next h => exact Nat.zero_le _
def shN (a : Nat) (k : Int) : Nat := if k < 0 then a / 2 ^ (-k).toNat else a * 2 ^ k.toNat
def natShift (x : List Int) (k : Int) : List Int × Bool := if natOkB x = true ∧ -4096 ≤ k ∧ k ≤ 4096 then fits (shN (val x).toNat k) else ([], false)
theorem natShift_len (x : List Int) (k : Int) : (natShift x k).1.length ≤ 256 := by
  unfold natShift
  split
  · exact fits_len _
  · exact Nat.zero_le _
theorem pow_lt_cap0 {i : Nat} (h : i ≤ 4096) : 2 ^ i < cap0 := by
  obtain ⟨E, hE⟩ : ∃ E, E = 257 := ⟨_, rfl⟩
  exact lt_cap0 (pow2_cap (E := E) (by omega)) (by omega)
theorem shN_cap {a : Nat} {k : Int} (ha : a < 65536 ^ 256) (h1 : k ≤ 4096) : shN a k < cap0 := by
  obtain ⟨E, hE⟩ : ∃ E, E = 257 := ⟨_, rfl⟩
  unfold shN
  split
  · exact Nat.lt_of_le_of_lt (Nat.div_le_self _ _) (c256 ha)
  · have hp : 2 ^ k.toNat < 65536 ^ E := pow2_cap (by omega)
    have := mul_cap ha hp
    exact lt_cap0 this (by omega)
end Go.Proofs.YtlbihmicbncdiaaDoorAm
