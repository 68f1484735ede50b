/-
  Roots of floats: what both texts search; the law of the square root.
-/
import Derived.Test.YtlbihmicbncdiaaDoorCc
namespace Go.Proofs.YtlbihmicbncdiaaDoorAm
open Go
set_option linter.unusedVariables false
set_option linter.unusedSimpArgs false

/-- How the power of a float from 0 on stands to a float from 0 on. -/
def cmpP (w : Int) (n : Nat) (m a : Int) : Int := cmpZ ((vTop w m ^ n * vBot w a : Nat) : Int) ((vTop w a * vBot w m ^ n : Nat) : Int)
def above (w : Int) (n : Nat) (a m : Int) : Bool := decide (0 < cmpP w n m a)
theorem top_w {w : Int} (hw : w = 32 ∨ w = 64) : 2139095040 ≤ top w ∧ top w ≤ 9218868437227405312 := by
  rcases hw with rfl | rfl <;> decide
theorem spec_l9Infinite_eq {α : Type} (N : Nat) (w a : Int) (k : Bool → Option α) : spec_l9Infinite N w a k = k (decide (a = top w) || decide (a = -top w)) := by
  rw [spec_l9Infinite.eq]
  unfold spec_l9Infinite.b
  simp only [spec_BitTop_eq, wrap_neg_top]
  by_cases h : a = top w <;> simp [h]
end Go.Proofs.YtlbihmicbncdiaaDoorAm
