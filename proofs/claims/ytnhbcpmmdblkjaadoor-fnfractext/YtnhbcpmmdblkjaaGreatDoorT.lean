/-
  What the functions on fractions compute, in plain words: making, order, quotients, floors; and the laws.
-/
import Derived.Test.YtnhbcpmmdblkjaaGreatDoorS
namespace Go.Proofs.YtnhbcpmmdblkjaaGreatDoorAm
open Go
set_option linter.unusedVariables false
set_option linter.unusedSimpArgs false

def fracOf (s : Bool) (x y : List Int) : R4 := if natOkB x = true ∧ natOkB y = true ∧ y.length ≠ 0 then mkF s (val x).toNat (val y).toNat else bad4
theorem spec_FracOf_eq {α : Type} (N : Nat) (s : Bool) (x y : List Int) (k : Bool → Bool → List Int → List Int → Option α) (hN : cap < N) : spec_FracOf N s x y k = k (fracOf s x y).1 (fracOf s x y).2.1 (fracOf s x y).2.2.1 (fracOf s x y).2.2.2 := by
  rw [spec_FracOf.eq]
  unfold spec_FracOf.b fracOf
  simp only [spec_NatOk_eq N _ _ hN]
  cases h1 : natOkB x
  · simp [bad4]
  cases h2 : natOkB y
  · simp [bad4]
  obtain ⟨a, ha, rfl⟩ := natOkB_ex h1
  obtain ⟨b, hb, rfl⟩ := natOkB_ex h2
  by_cases h3 : b = 0
  · subst h3; simp [bad4, digs_zero]
  · have h4 : (digs b).length ≠ 0 := fun e => h3 (digs_len_zero.1 e)
    simp only [Bool.not_true, cond_false, len_cast_zero, h3, decide_false, spec_l6Make_eq N s a b _ (c256 ha) (c256 hb) h3 hN, h4, Ne, not_false_eq_true, and_self, if_true, val_digs, Int.toNat_natCast]
end Go.Proofs.YtnhbcpmmdblkjaaGreatDoorAm
