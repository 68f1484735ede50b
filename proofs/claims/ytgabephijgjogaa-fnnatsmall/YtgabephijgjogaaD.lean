/-
  The readers of codes: they come to an end, and what they tell lies where it may.
-/
import Derived.Test.YtgabephijgjogaaB
namespace Go.Proofs.YtgabephijgjogaaAm
open Go
set_option linter.unusedVariables false
set_option linter.unusedSimpArgs false

abbrev RdD := List Int × Int × Unit
def RdOk (c : Nat) (s : RdD) : Prop := (∀ x ∈ s.1, 0 ≤ x ∧ x ≤ 255) ∧ 0 ≤ s.2.1 ∧ s.2.1 ≤ c
theorem tmod_lt {x n : Int} (hx : 0 ≤ x) (hn : 1 ≤ n) : 0 ≤ x.tmod n ∧ x.tmod n < n := by
  rw [Int.tmod_eq_emod_of_nonneg hx]
  exact ⟨Int.emod_nonneg _ (by omega), Int.emod_lt_of_pos _ (by omega)⟩
theorem xor_nonneg {x y : Int} (hx : 0 ≤ x) (hx2 : x < 9223372036854775808) (hy : 0 ≤ y) (hy2 : y < 9223372036854775808) : 0 ≤ bitI .xor .i64 x y := by
  obtain ⟨a, rfl⟩ : ∃ a : Nat, x = a := ⟨x.toNat, by omega⟩
  obtain ⟨b, rfl⟩ : ∃ b : Nat, y = b := ⟨y.toNat, by omega⟩
  change 0 ≤ IntKind.i64.wrap ((BitVec.ofInt 64 (a : Int) ^^^ BitVec.ofInt 64 (b : Int)).toNat : Int)
  have h1 : (BitVec.ofInt 64 (a : Int) ^^^ BitVec.ofInt 64 (b : Int)).toNat = a ^^^ b := by
    rw [BitVec.toNat_xor, BitVec.ofInt_natCast, BitVec.ofInt_natCast, BitVec.toNat_ofNat, BitVec.toNat_ofNat, Nat.mod_eq_of_lt (by omega), Nat.mod_eq_of_lt (by omega)]
  have h2 : a ^^^ b < 2 ^ 63 := Nat.xor_lt_two_pow (by omega) (by omega)
  rw [h1, wrap_i64 (by omega) (by omega)]
  omega
end Go.Proofs.YtgabephijgjogaaAm
