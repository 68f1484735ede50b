/-
  What the functions on whole numbers compute, in plain words: quotients, divisors, roots, shifts; and the laws.
-/
import Derived.Test.YtnhbcpmmdblkjaaGreatDoorW
namespace Go.Proofs.YtnhbcpmmdblkjaaGreatDoorAm
open Go
set_option linter.unusedVariables false
set_option linter.unusedSimpArgs false

/-- A number, if it has no more digits than may be. -/
def fits (n : Nat) : List Int × Bool := if (digs n).length ≤ 256 then (digs n, true) else ([], false)
theorem impl_clone_int_eq {α : Type} (N : Nat) (l : List Int) (k1 : List Int → Option α) (h : l.length ≤ 1048576) : impl_clone_int N l k1 = k1 l := by
  rw [impl_clone_int.eq]
  unfold impl_clone_int.b slices_Clone_int_int
  have h1 : decide (List.length ([] : List Int) + List.length l ≤ 8796093022208) = true := by simp; omega
  simp only [h1, cond_true]
  rw [slices_Clip_int_int.eq]
  unfold slices_Clip_int_int.b
  simp [cast_nn]
theorem impl_told_eq {α : Type} (N n : Nat) (k : Bool → List Int → Option α) (h : n < cap) (hN : cap < N) : impl_told N (digs n) true k = k (fits n).2 (fits n).1 := by
  have hl := len_cap h
  have hNN := cap_N hN
  rw [impl_told.eq]
  unfold impl_told.b fits
  rw [impl_trim_eq N _ _ (by omega) (by omega), tl_digs]
  by_cases h1 : (digs n).length ≤ 256
  · have c1 : ¬ ((256 : Int) < (((digs n).length : Nat) : Int)) := by omega
    simp [c1, h1, impl_clone_int_eq N (digs n) _ (show (digs n).length ≤ 1048576 by omega)]
  · have c1 : ((256 : Int) < (((digs n).length : Nat) : Int)) := by omega
    simp [c1, h1]
theorem spec_l5Fits_eq {α : Type} (N n : Nat) (k : List Int → Bool → Option α) : spec_l5Fits N (digs n) k = k (fits n).1 (fits n).2 := by
  rw [spec_l5Fits.eq]
  unfold spec_l5Fits.b fits
  by_cases h : (digs n).length ≤ 256
  · have : ¬ ((256 : Int) < (((digs n).length : Nat) : Int)) := by omega
    simp [this, h]
  · have : ((256 : Int) < (((digs n).length : Nat) : Int)) := by omega
    simp [this, h]
theorem laws_pwSame_loop {α : Type} (N : Nat) (a b : List Int) (hl : a.length = b.length) (hb : a.length < 4611686018427387904) (k : Bool → Option α) (k1 : Option α) : ∀ (d i n : Nat), i + d = a.length → d < n →
    laws_pwSame_L0 N n a b (i : Int) k k1 = if a.drop i = b.drop i then k1 else k false := by
  intro d
  induction d with
  | zero =>
    intro i n h hn
    obtain ⟨n, rfl⟩ : ∃ m, n = m + 1 := ⟨n - 1, by omega⟩
    rw [laws_pwSame_L0.succ]
    unfold laws_pwSame_L0r
    simp only [cast_nlt (show ¬ i < a.length by omega), cond_false]
    rw [List.drop_eq_nil_of_le (by omega), List.drop_eq_nil_of_le (by omega), if_pos rfl]
  | succ d ih =>
    intro i n h hn
    obtain ⟨n, rfl⟩ : ∃ m, n = m + 1 := ⟨n - 1, by omega⟩
    have hi : i < a.length := by omega
    have hj : i < b.length := by omega
    rw [laws_pwSame_L0.succ]
    unfold laws_pwSame_L0r
    simp only [cast_lt hi, cond_true, cast_neg, cond_false, Int.toNat_natCast, List.getElem?_eq_getElem hi, List.getElem?_eq_getElem hj, succ_i (show i < 4611686018427387904 by omega)]
    have e1 := List.drop_eq_getElem_cons hi
    have e2 := List.drop_eq_getElem_cons hj
    rw [e1, e2]
    by_cases he : a[i] = b[i]
    · simp only [he, decide_true, Bool.not_true, cond_false, List.cons.injEq, true_and]
      exact ih (i + 1) n (by omega) (by omega)
    · simp only [he, decide_false, Bool.not_false, cond_true, List.cons.injEq, false_and, if_false]
theorem laws_pwSame_eq {α : Type} (N : Nat) (a b : List Int) (k : Bool → Option α) (h : a.length ≤ 1048576) (hN : cap < N) : laws_pwSame N a b k = k (decide (a = b)) := by
  have hNN := cap_N hN
  rw [laws_pwSame.eq]
  unfold laws_pwSame.b
  by_cases hl : a.length = b.length
  · have hl2 : ((a.length : Nat) : Int) = ((b.length : Nat) : Int) := by omega
    have e := laws_pwSame_loop N a b hl (by omega) k (k true) a.length 0 N (by omega) (by omega)
    simp only [hl2, decide_true, Bool.not_true, cond_false]
    refine e.trans ?_
    by_cases he : a = b
    · simp [he]
    · simp [he]
  · have hl2 : ¬ ((a.length : Nat) : Int) = ((b.length : Nat) : Int) := by omega
    have he : ¬ a = b := fun e => hl (by rw [e])
    simp only [hl2, he, decide_false, Bool.not_false, cond_true]
end Go.Proofs.YtnhbcpmmdblkjaaGreatDoorAm
