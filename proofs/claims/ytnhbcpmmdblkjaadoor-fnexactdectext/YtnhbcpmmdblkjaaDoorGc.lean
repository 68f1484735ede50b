/-
  Reading decimals; the law of texts and back.
-/
import Derived.Test.YtnhbcpmmdblkjaaDoorGa
import Derived.Test.YtnhbcpmmdblkjaaDoorW
import Derived.Test.YtnhbcpmmdblkjaaDoorB
import Derived.Test.YtnhbcpmmdblkjaaDoorR
namespace Go.Proofs.YtnhbcpmmdblkjaaDoorAm
open Go
set_option linter.unusedVariables false
set_option linter.unusedSimpArgs false

theorem BA_get (l : List UInt8) (i : Nat) : ((BA l)[i]? : Option UInt8) = l[i]? := by
  by_cases h : i < l.length
  · have h2 : i < (BA l).size := by rw [BA_size]; exact h
    rw [getElem?_pos (BA l) i h2, List.getElem?_eq_getElem h]; rfl
  · have h2 : ¬ i < (BA l).size := by rw [BA_size]; omega
    rw [getElem?_neg (BA l) i h2, List.getElem?_eq_none (by omega)]
def isDig (d : UInt8) : Bool := decide (48 ≤ d.toNat) && decide (d.toNat ≤ 57)
def stepD (v : Nat) (d : UInt8) : Nat := v * 10 + (d.toNat - 48)
def valT (l : List UInt8) : Nat := l.foldl stepD 0
theorem isDig_ok {d : UInt8} (h : isDig d = true) : 48 ≤ d.toNat ∧ d.toNat ≤ 57 := by
  simpa [isDig] using h
theorem ten_cap {i : Nat} (h : i ≤ 1302) : 10 ^ i < cap := by
  obtain ⟨E, hE⟩ : ∃ E, E = 330 := ⟨_, rfl⟩
  have h1 : 10 ^ i ≤ (2 ^ 4) ^ i := Nat.pow_le_pow_left (by decide) i
  rw [← Nat.pow_mul] at h1
  exact lt_cap (Nat.lt_of_le_of_lt h1 (pow2_cap (E := E) (by omega))) (by omega)
theorem digit_u8 {r : Nat} (h : r < 10) : (UInt8.ofNat (48 + r)).toNat = 48 + r := by
  simp; omega
theorem dec_read (a : Nat) : valT (Go.Lib.decDigits a) = a ∧ (Go.Lib.decDigits a).all isDig = true ∧ (a ≠ 0 → (Go.Lib.decDigits a)[0]? ≠ some 48) ∧ 0 < (Go.Lib.decDigits a).length := by
  induction a using Nat.strongRecOn with
  | _ a ih =>
    by_cases h1 : a < 10
    · rw [dec_small h1]
      have hd := digit_u8 h1
      refine ⟨?_, ?_, ?_, by simp⟩
      · unfold valT
        simp only [List.foldl_cons, List.foldl_nil, stepD, hd]; omega
      · simp only [List.all_cons, List.all_nil, Bool.and_true, isDig, hd, Bool.and_eq_true, decide_eq_true_eq]; omega
      · intro h0 h
        simp only [List.getElem?_cons_zero, Option.some.injEq] at h
        have := congrArg UInt8.toNat h
        rw [hd] at this
        have e : (48 : UInt8).toNat = 48 := rfl
        rw [e] at this; omega
    · obtain ⟨e1, e2, e3, e4⟩ := ih (a / 10) (by omega)
      rw [dec_big h1]
      have hd := digit_u8 (r := a % 10) (by omega)
      refine ⟨?_, ?_, ?_, by simp⟩
      · unfold valT at *
        rw [List.foldl_append, e1]
        simp only [List.foldl_cons, List.foldl_nil, stepD, hd]; omega
      · rw [List.all_append, e2]
        simp only [List.all_cons, List.all_nil, Bool.and_true, isDig, hd, Bool.true_and, Bool.and_eq_true, decide_eq_true_eq]; omega
      · intro _
        rw [List.getElem?_append_left e4]
        exact e3 (by omega)
theorem dig_not {d : UInt8} (h : isDig d = false) : ((d.toNat : Nat) : Int) < 48 ∨ (¬ ((d.toNat : Nat) : Int) < 48 ∧ (57 : Int) < ((d.toNat : Nat) : Int)) := by
  simp only [isDig, Bool.and_eq_false_iff, decide_eq_false_iff_not] at h
  omega
end Go.Proofs.YtnhbcpmmdblkjaaDoorAm
