/-
  What the functions on fractions compute, in plain words: relations, floors, quotients.
-/
import Derived.Test.YtlbihmicbncdiaaDoorT
namespace Go.Proofs.YtlbihmicbncdiaaDoorAm
open Go
set_option linter.unusedVariables false
set_option linter.unusedSimpArgs false

def relOf (r : Int) (f g : FracD) : Bool :=
  if fracCmp f g = 0 then decide (r = 1 ∨ r = 2 ∨ r = 3) else if fracCmp f g = -1 then decide (r = 1) else if fracCmp f g = 1 then decide (r = 2) else false
theorem fracCmp_cases (f g : FracD) (h : fracOkB f = true ∧ fracOkB g = true) : fracCmp f g = -1 ∨ fracCmp f g = 0 ∨ fracCmp f g = 1 := by
  unfold fracCmp
  rw [if_pos h]
  unfold cmpZ
  split
  · simp
  · split <;> simp
def fracFloor (f : FracD) : R4 :=
  if fracOkB f = true then
    mkF f.1 ((val f.2.1).toNat / (val f.2.2.1).toNat + if f.1 = true ∧ (val f.2.1).toNat % (val f.2.2.1).toNat ≠ 0 then 1 else 0) 1
  else bad4
theorem fracFloor_len (f : FracD) : (fracFloor f).2.2.1.length ≤ 256 ∧ (fracFloor f).2.2.2.length ≤ 256 := by
  unfold fracFloor
  split
  · exact mkF_len _ _ _
  · exact ⟨Nat.zero_le _, Nat.zero_le _⟩
theorem floor_cap {a b : Nat} (ha : a < 65536 ^ 256) (x : Nat) (hx : x ≤ 1) : a / b + x < cap0 := by
  have h1 : a / b < 65536 ^ 256 := Nat.lt_of_le_of_lt (Nat.div_le_self a b) ha
  have h2 : x < 65536 ^ 256 := Nat.lt_of_lt_of_le (show x < 65536 ^ 1 by omega) (pow_up (by omega))
  exact lt_cap0 (add_cap h1 h2) (by decide)
def fracDiv (f g : FracD) : R4 :=
  if fracOkB f = true ∧ fracOkB g = true ∧ g.2.1.length ≠ 0 then mkF (!(f.1 == g.1)) ((val f.2.1).toNat * (val g.2.2.1).toNat) ((val f.2.2.1).toNat * (val g.2.1).toNat) else bad4
theorem fracDiv_len (f g : FracD) : (fracDiv f g).2.2.1.length ≤ 256 ∧ (fracDiv f g).2.2.2.length ≤ 256 := by
  unfold fracDiv
  split
  · exact mkF_len _ _ _
  · exact ⟨Nat.zero_le _, Nat.zero_le _⟩
end Go.Proofs.YtlbihmicbncdiaaDoorAm
