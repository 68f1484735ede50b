/-
  What the reference's functions on naturals compute, in plain words.
-/
import Derived.Test.YtgabephijgjogaaF
namespace Go.Proofs.YtgabephijgjogaaAm
open Go
set_option linter.unusedVariables false
set_option linter.unusedSimpArgs false

def digB (x : Int) : Bool := decide (0 ≤ x) && decide (x < 65536)
def natOkB (l : List Int) : Bool := decide (l.length ≤ 256) && l.all digB && (decide (l.length = 0) || decide (l.getD (l.length - 1) 0 ≠ 0))
theorem all_dig {l : List Int} : l.all digB = true ↔ Dig l := by
  simp [Dig, digB, List.all_eq_true]
theorem natOkB_ex {l : List Int} (h : natOkB l = true) : ∃ n, n < 65536 ^ 256 ∧ l = digs n := by
  simp only [natOkB, Bool.and_eq_true, Bool.or_eq_true, decide_eq_true_eq, all_dig] at h
  obtain ⟨⟨h1, h2⟩, h3⟩ := h
  have e : Nrm l := by
    refine ⟨h2, fun hne => ?_⟩
    rcases h3 with h3 | h3
    · exact absurd (List.length_eq_zero_iff.1 h3) hne
    · have := List.length_pos_iff.2 hne
      rw [List.getLast_eq_getElem, getD_at (by omega)]; exact h3
  have e2 := nrm_eq e
  refine ⟨(val l).toNat, ?_, e2⟩
  rw [e2] at h1
  exact digs_lt_pow h1
theorem natOkB_digs {n : Nat} (h : n < 65536 ^ 256) : natOkB (digs n) = true := by
  simp only [natOkB, Bool.and_eq_true, Bool.or_eq_true, decide_eq_true_eq, all_dig]
  refine ⟨⟨digs_len_le h, dig_digs n⟩, ?_⟩
  by_cases h0 : n = 0
  · left; rw [h0, digs_zero]; rfl
  · right
    have hp := List.length_pos_iff.2 (digs_ne h0)
    have := (nrm_digs n).2 (digs_ne h0)
    rwa [List.getLast_eq_getElem, getD_at (by omega)] at this
theorem cast_pos (i : Nat) : decide ((0 : Int) < ((i + 1 : Nat) : Int)) = true := by simp
theorem top_lt {x y P u v : Int} (h : 0 < P) (h2 : x < y) (hu : u < P) (hv : 0 ≤ v) : u + P * x < v + P * y := by
  have := Int.mul_le_mul_of_nonneg_left (show x + 1 ≤ y by omega) (show 0 ≤ P by omega)
  grind
theorem cap_N {N : Nat} (h : cap < N) : 1099511627776 < N := Nat.lt_of_le_of_lt cap_ge h
theorem take_lt_of {a b : List Int} {i : Nat} (ha : Dig a) (hb : Dig b) (h : a.getD i 0 < b.getD i 0) : val (a.take (i + 1)) < val (b.take (i + 1)) := by
  rw [val_take_succ, val_take_succ]
  refine top_lt (ipow_pos i) h ?_ (val_nonneg (dig_take hb i))
  by_cases hi : i ≤ a.length
  · have := val_lt (dig_take ha i); rwa [List.length_take, Nat.min_eq_left hi] at this
  · have := val_lt (dig_take ha i)
    rw [List.length_take, Nat.min_eq_right (by omega)] at this
    have h2 : (65536 : Nat) ^ a.length ≤ 65536 ^ i := Nat.pow_le_pow_right (by omega) (by omega)
    have e1 : (((65536 ^ a.length : Nat)) : Int) = (65536 : Int) ^ a.length := Int.natCast_pow _ _
    have e2 : (((65536 ^ i : Nat)) : Int) = (65536 : Int) ^ i := Int.natCast_pow _ _
    omega
theorem take_eq_of {a b : List Int} {i : Nat} (h : a.getD i 0 = b.getD i 0) : val (a.take (i + 1)) - val (b.take (i + 1)) = val (a.take i) - val (b.take i) := by
  rw [val_take_succ, val_take_succ, h]; omega
theorem digs_len_lt {a b : Nat} (h : (digs a).length < (digs b).length) : a < b := by
  by_cases h2 : a < b
  · exact h2
  · have := digs_len_mono (show b ≤ a by omega); omega
end Go.Proofs.YtgabephijgjogaaAm
