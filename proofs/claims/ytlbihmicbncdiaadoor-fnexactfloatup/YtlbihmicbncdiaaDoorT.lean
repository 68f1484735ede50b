/-
  What the functions on fractions compute, in plain words: making, order, quotients, floors; and the laws.
-/
import Derived.Test.YtlbihmicbncdiaaDoorS
namespace Go.Proofs.YtlbihmicbncdiaaDoorAm
open Go
set_option linter.unusedVariables false
set_option linter.unusedSimpArgs false

def fracOf (s : Bool) (x y : List Int) : R4 := if natOkB x = true ∧ natOkB y = true ∧ y.length ≠ 0 then mkF s (val x).toNat (val y).toNat else bad4
theorem fracOf_len (s : Bool) (x y : List Int) : (fracOf s x y).2.2.1.length ≤ 256 ∧ (fracOf s x y).2.2.2.length ≤ 256 := by
  unfold fracOf
  split
  · exact mkF_len _ _ _
  · exact ⟨Nat.zero_le _, Nat.zero_le _⟩
def fracAbs (f : FracD) : R4 := if fracOkB f = true then (false, true, f.2.1, f.2.2.1) else bad4
theorem okB_len {f : FracD} (h : fracOkB f = true) : f.2.1.length ≤ 256 ∧ f.2.2.1.length ≤ 256 := by
  obtain ⟨s, a, b, rfl, ha, hb, _⟩ := fracOkB_ex h
  exact ⟨digs_len_le ha, digs_len_le hb⟩
theorem fracAbs_len (f : FracD) : (fracAbs f).2.2.1.length ≤ 256 ∧ (fracAbs f).2.2.2.length ≤ 256 := by
  unfold fracAbs
  split
  next h => exact okB_len h
  next h => exact ⟨Nat.zero_le _, Nat.zero_le _⟩
def sgnd (s : Bool) (n : Nat) : Int := if s then -(n : Int) else n
def cmpZ (x y : Int) : Int := if x < y then -1 else if y < x then 1 else 0
def fracCmp (f g : FracD) : Int := if fracOkB f = true ∧ fracOkB g = true then cmpZ (sgnd f.1 ((val f.2.1).toNat * (val g.2.2.1).toNat)) (sgnd g.1 ((val g.2.1).toNat * (val f.2.2.1).toNat)) else 2
theorem mulc {a b : Nat} (ha : a < 65536 ^ 256) (hb : b < 65536 ^ 256) : a * b < cap0 := lt_cap0 (mul_cap ha hb) (by decide)
def sum4 (s : Bool) (n : Nat) (t : Bool) (m : Nat) : Bool × Nat := if s = t then (s, n + m) else if m ≤ n then (s, n - m) else (t, m - n)
theorem sum4_val (s : Bool) (n : Nat) (t : Bool) (m : Nat) : sgnd (sum4 s n t m).1 (sum4 s n t m).2 = sgnd s n + sgnd t m := by
  unfold sum4
  by_cases h : s = t
  · subst h
    rw [if_pos rfl]
    cases s <;> simp only [sgnd, if_true, if_false, Bool.false_eq_true] <;> omega
  · rw [if_neg h]
    by_cases h2 : m ≤ n
    · rw [if_pos h2]
      cases s <;> cases t <;> simp only [sgnd, if_true, if_false, Bool.false_eq_true] <;> first | omega | exact absurd rfl h
    · rw [if_neg h2]
      cases s <;> cases t <;> simp only [sgnd, if_true, if_false, Bool.false_eq_true] <;> first | omega | exact absurd rfl h
theorem sign_of {α : Type} {r : Bool × Nat} {X Y : Int} (h : sgnd r.1 r.2 = X - Y) (k : Int → Option α) : (bif decide (r.2 = 0) then k 0 else bif r.1 then k (-1) else k 1) = k (cmpZ X Y) := by
  obtain ⟨b, n⟩ := r
  unfold cmpZ
  by_cases h0 : n = 0
  · subst h0
    have e : X = Y := by cases b <;> simp only [sgnd, if_true, if_false, Bool.false_eq_true] at h <;> omega
    subst e
    simp
  · cases b
    · simp only [sgnd, if_false, Bool.false_eq_true] at h
      simp only [h0, decide_false, cond_false, if_neg (show ¬ X < Y by omega), if_pos (show Y < X by omega)]
    · simp only [sgnd, if_true] at h
      simp only [h0, decide_false, cond_false, cond_true, if_pos (show X < Y by omega)]
theorem sgnd_neg (t : Bool) (c b : Nat) : sgnd (!t && decide (c ≠ 0)) (c * b) = - sgnd t (c * b) := by
  by_cases h : c = 0
  · subst h; cases t <;> simp [sgnd]
  · cases t <;> simp [sgnd, h]
end Go.Proofs.YtlbihmicbncdiaaDoorAm
