/-
  What the functions on whole numbers compute, in plain words: quotients, divisors, roots, shifts; and the laws.
-/
import Derived.Test.YtnhbcpmmdblkjaaDoorW
namespace Go.Proofs.YtnhbcpmmdblkjaaDoorAm
open Go
set_option linter.unusedVariables false
set_option linter.unusedSimpArgs false

/-- A number, if it has no more digits than may be. -/
def fits (n : Nat) : List Int × Bool := if (digs n).length ≤ 256 then (digs n, true) else ([], false)
theorem impl_clone_int_eq {α : Type} (N : Nat) (l : List Int) (k1 : List Int → Option α) (h : l.length ≤ 1048576) : impl_clone_int N l k1 = k1 l := by
  rw [impl_clone_int.eq]
  unfold impl_clone_int.b slices_Clone_int_int
  have h1 : decide (List.length ([] : List Int) + List.length l ≤ 8796093022208) = true := by simp; omega
  simp only [h1, cond_true]
  rw [slices_Clip_int_int.eq]
  unfold slices_Clip_int_int.b
  simp [cast_nn]
theorem impl_told_eq {α : Type} (N n : Nat) (k : Bool → List Int → Option α) (h : n < cap) (hN : cap < N) : impl_told N (digs n) true k = k (fits n).2 (fits n).1 := by
  have hl := len_cap h
  have hNN := cap_N hN
  rw [impl_told.eq]
  unfold impl_told.b fits
  rw [impl_trim_eq N _ _ (by omega) (by omega), tl_digs]
  by_cases h1 : (digs n).length ≤ 256
  · have c1 : ¬ ((256 : Int) < (((digs n).length : Nat) : Int)) := by omega
    simp [c1, h1, impl_clone_int_eq N (digs n) _ (show (digs n).length ≤ 1048576 by omega)]
  · have c1 : ((256 : Int) < (((digs n).length : Nat) : Int)) := by omega
    simp [c1, h1]
theorem spec_l5Fits_eq {α : Type} (N n : Nat) (k : List Int → Bool → Option α) : spec_l5Fits N (digs n) k = k (fits n).1 (fits n).2 := by
  rw [spec_l5Fits.eq]
  unfold spec_l5Fits.b fits
  by_cases h : (digs n).length ≤ 256
  · have : ¬ ((256 : Int) < (((digs n).length : Nat) : Int)) := by omega
    simp [this, h]
  · have : ((256 : Int) < (((digs n).length : Nat) : Int)) := by omega
    simp [this, h]
end Go.Proofs.YtnhbcpmmdblkjaaDoorAm
