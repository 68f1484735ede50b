/-
  What the functions on whole numbers compute, in plain words: quotients, divisors, roots, shifts; and the laws.
-/
import Derived.Test.YtgabephijgjogaaR
namespace Go.Proofs.YtgabephijgjogaaAm
open Go
set_option linter.unusedVariables false
set_option linter.unusedSimpArgs false

/-- A number, if it has no more digits than may be. -/
def fits (n : Nat) : List Int × Bool := if (digs n).length ≤ 256 then (digs n, true) else ([], false)
theorem impl_clone_int_eq {α : Type} (N : Nat) (l : List Int) (k1 : List Int → Option α) (h : l.length ≤ 1048576) : impl_clone_int N l k1 = k1 l := by
  rw [impl_clone_int.eq]
  unfold impl_clone_int.b slices_Clone_int_int
  have h1 : decide (List.length ([] : List Int) + List.length l ≤ 8796093022208) = true := by simp; omega
  simp only [h1, cond_true]
  rw [slices_Clip_int_int.eq]
  unfold slices_Clip_int_int.b
  simp [cast_nn]
theorem impl_told_eq {α : Type} (N n : Nat) (k : Bool → List Int → Option α) (h : n < cap) (hN : cap < N) : impl_told N (digs n) true k = k (fits n).2 (fits n).1 := by
  have hl := len_cap h
  have hNN := cap_N hN
  rw [impl_told.eq]
  unfold impl_told.b fits
  rw [impl_trim_eq N _ _ (by omega) (by omega), tl_digs]
  by_cases h1 : (digs n).length ≤ 256
  · have c1 : ¬ ((256 : Int) < (((digs n).length : Nat) : Int)) := by omega
    simp [c1, h1, impl_clone_int_eq N (digs n) _ (show (digs n).length ≤ 1048576 by omega)]
  · have c1 : ((256 : Int) < (((digs n).length : Nat) : Int)) := by omega
    simp [c1, h1]
def natDiv (x y : List Int) : Bool × List Int × List Int :=
  if natOkB x = true ∧ natOkB y = true ∧ y.length ≠ 0 then (true, digs ((val x).toNat / (val y).toNat), digs ((val x).toNat % (val y).toNat)) else (false, [], [])
theorem natDiv_digs {a b : Nat} (ha : a < 65536 ^ 256) (hb : b < 65536 ^ 256) (h : b ≠ 0) : natDiv (digs a) (digs b) = (true, digs (a / b), digs (a % b)) := by
  unfold natDiv
  rw [if_pos ⟨natOkB_digs ha, natOkB_digs hb, fun e => h (digs_len_zero.1 e)⟩]
  simp only [val_digs, Int.toNat_natCast]
theorem div_cap {a : Nat} (b : Nat) (ha : a < 65536 ^ 256) : a / b < 65536 ^ 256 := Nat.lt_of_le_of_lt (Nat.div_le_self a b) ha
theorem mod_cap {a : Nat} (b : Nat) (ha : a < 65536 ^ 256) : a % b < 65536 ^ 256 := Nat.lt_of_le_of_lt (Nat.mod_le a b) ha
theorem impl_NatDiv_eq {α : Type} (N : Nat) (x y : List Int) (k : Bool → List Int → List Int → Option α) (hN : cap < N) : impl_NatDiv N x y k = k (natDiv x y).1 (natDiv x y).2.1 (natDiv x y).2.2 := by
  rw [impl_NatDiv.eq]
  unfold impl_NatDiv.b
  simp only [impl_nats_eq N [x, y] _ (show 2 < 1000 by omega) hN, List.all_cons, List.all_nil, Bool.and_true]
  cases h1 : natOkB x
  · simp [natDiv, h1]
  cases h2 : natOkB y
  · simp [natDiv, h1, h2]
  obtain ⟨a, ha, rfl⟩ := natOkB_ex h1
  obtain ⟨b, hb, rfl⟩ := natOkB_ex h2
  by_cases h3 : b = 0
  · subst h3; simp [natDiv, digs_zero]
  · have l1 := digs_len_le (div_cap b ha)
    have l2 := digs_len_le (mod_cap b ha)
    simp only [natDiv_digs ha hb h3, Bool.and_self, Bool.not_true, cond_false, len_cast_zero, h3, decide_false, impl_natDiv_eq N a b _ (c256 ha) (c256 hb) h3 hN,
      impl_clone_int_eq N (digs (a / b)) _ (show (digs (a / b)).length ≤ 1048576 by omega), impl_clone_int_eq N (digs (a % b)) _ (show (digs (a % b)).length ≤ 1048576 by omega)]
end Go.Proofs.YtgabephijgjogaaAm
