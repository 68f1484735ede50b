/-
  What the functions on fractions compute, in plain words: making, order, quotients, floors; and the laws.
-/
import Derived.Test.YthjjaddhcdekjaaS
namespace Go.Proofs.YthjjaddhcdekjaaAm
open Go
set_option linter.unusedVariables false
set_option linter.unusedSimpArgs false

def fracOf (s : Bool) (x y : List Int) : R4 := if natOkB x = true ∧ natOkB y = true ∧ y.length ≠ 0 then mkF s (val x).toNat (val y).toNat else bad4
theorem fracOf_len (s : Bool) (x y : List Int) : (fracOf s x y).2.2.1.length ≤ 256 ∧ (fracOf s x y).2.2.2.length ≤ 256 := by
  unfold fracOf
  split
  · exact mkF_len _ _ _
  · exact ⟨Nat.zero_le _, Nat.zero_le _⟩
def fracAbs (f : FracD) : R4 := if fracOkB f = true then (false, true, f.2.1, f.2.2.1) else bad4
theorem okB_len {f : FracD} (h : fracOkB f = true) : f.2.1.length ≤ 256 ∧ f.2.2.1.length ≤ 256 := by
  obtain ⟨s, a, b, rfl, ha, hb, _⟩ := fracOkB_ex h
  exact ⟨digs_len_le ha, digs_len_le hb⟩
theorem fracAbs_len (f : FracD) : (fracAbs f).2.2.1.length ≤ 256 ∧ (fracAbs f).2.2.2.length ≤ 256 := by
  unfold fracAbs
  split
  next h => exact okB_len h
  next h => exact ⟨Nat.zero_le _, Nat.zero_le _⟩
theorem spec_FracAbs_eq {α : Type} (N : Nat) (f : FracD) (k : Bool → Bool → List Int → List Int → Option α) (hN : cap < N) : spec_FracAbs N f k = k (fracAbs f).1 (fracAbs f).2.1 (fracAbs f).2.2.1 (fracAbs f).2.2.2 := by
  rw [spec_FracAbs.eq]
  unfold spec_FracAbs.b fracAbs
  rw [spec_FracOk_eq N _ _ hN]
  cases h : fracOkB f
  · simp [bad4]
  · obtain ⟨s, a, b, rfl, ha, hb, _⟩ := fracOkB_ex h
    simp only [Bool.not_true, cond_false, spec_l5Trim_dig N a _ (cap0_lt (c256 ha)) hN, spec_l5Trim_dig N b _ (cap0_lt (c256 hb)) hN, if_true]
theorem impl_FracAbs_eq {α : Type} (N : Nat) (f : FracD) (k : Bool → Bool → List Int → List Int → Option α) (hN : cap < N) : impl_FracAbs N f k = k (fracAbs f).1 (fracAbs f).2.1 (fracAbs f).2.2.1 (fracAbs f).2.2.2 := by
  rw [impl_FracAbs.eq]
  unfold impl_FracAbs.b fracAbs
  rw [impl_one__impl_FracAbs_1.eq]
  unfold impl_one__impl_FracAbs_1.b
  rw [impl_FracOk_eq N _ _ hN]
  cases h : fracOkB f
  · simp [bad4]
  · obtain ⟨h1, h2⟩ := okB_len h
    simp only [Bool.not_true, cond_false, if_true, impl_FracAbs_1.eq]
    unfold impl_FracAbs_1.b
    simp only [impl_given_eq, givenF, h1, h2, and_self, if_true]
theorem pure_FnExactFracAbs (x0 : FracD) (z0 : wfD (.pair .bool (.pair (.sl (.int .i64)) (.pair (.sl (.int .i64)) .unit))) x0) : ∃ N, laws_FnExactFracAbs N x0 some = some true := by
  refine ⟨cap + 1, ?_⟩
  have hN : cap < cap + 1 := by omega
  have hl1 : x0.2.1.length ≤ maxLen := z0.2.1.1
  have hl2 : x0.2.2.1.length ≤ maxLen := z0.2.2.1.1
  generalize cap + 1 = N at *
  rw [laws_FnExactFracAbs.eq]
  unfold laws_FnExactFracAbs.b
  have sz := fun k => laws_szFrac_eq (α := Bool) N x0 1048576 k hl1 hl2 (by omega)
  rw [show ((1048576 : Nat) : Int) = 1048576 from rfl] at sz
  rw [sz]
  by_cases h : x0.2.1.length + x0.2.2.1.length ≤ 1048576
  · obtain ⟨l1, l2⟩ := fracAbs_len x0
    simp only [h, if_true, cast_neg, cond_false, laws_toFrac_eq N x0 _ h hN, spec_FracAbs_eq N _ _ hN, impl_FracAbs_eq N _ _ hN]
    generalize fracAbs (x0.1, (x0.2.1, (x0.2.2.1, ()))) = r at *
    have l3 : r.2.2.1.length + r.2.2.2.length ≤ 1048576 := by omega
    have q1 : ¬ (1 + (x0.2.1.length : Int) + (x0.2.2.1.length : Int) < 0) := by omega
    have q2 : ¬ (1 + (r.2.2.1.length : Int) + (r.2.2.2.length : Int) < 0) := by omega
    simp only [laws_eqFrac_eq N _ _ _ _ l3 hN, laws_eqFrac_eq N _ _ _ _ h hN, q1, q2, laws_markFrac_eq N _ _ _ _ l3 hN, laws_markFrac_eq N _ _ _ _ h hN, laws_heldFrac_eq N _ _ _ _ l3 hN, beq_self_eq_true, decide_true, decide_false, Bool.not_true, cond_false]
  · simp [h]
def sgnd (s : Bool) (n : Nat) : Int := if s then -(n : Int) else n
def cmpZ (x y : Int) : Int := if x < y then -1 else if y < x then 1 else 0
def fracCmp (f g : FracD) : Int := if fracOkB f = true ∧ fracOkB g = true then cmpZ (sgnd f.1 ((val f.2.1).toNat * (val g.2.2.1).toNat)) (sgnd g.1 ((val g.2.1).toNat * (val f.2.2.1).toNat)) else 2
theorem mulc {a b : Nat} (ha : a < 65536 ^ 256) (hb : b < 65536 ^ 256) : a * b < cap0 := lt_cap0 (mul_cap ha hb) (by decide)
def sum4 (s : Bool) (n : Nat) (t : Bool) (m : Nat) : Bool × Nat := if s = t then (s, n + m) else if m ≤ n then (s, n - m) else (t, m - n)
theorem sum4_val (s : Bool) (n : Nat) (t : Bool) (m : Nat) : sgnd (sum4 s n t m).1 (sum4 s n t m).2 = sgnd s n + sgnd t m := by
  unfold sum4
  by_cases h : s = t
  · subst h
    rw [if_pos rfl]
    cases s <;> simp only [sgnd, if_true, if_false, Bool.false_eq_true] <;> omega
  · rw [if_neg h]
    by_cases h2 : m ≤ n
    · rw [if_pos h2]
      cases s <;> cases t <;> simp only [sgnd, if_true, if_false, Bool.false_eq_true] <;> first | omega | exact absurd rfl h
    · rw [if_neg h2]
      cases s <;> cases t <;> simp only [sgnd, if_true, if_false, Bool.false_eq_true] <;> first | omega | exact absurd rfl h
theorem sign_of {α : Type} {r : Bool × Nat} {X Y : Int} (h : sgnd r.1 r.2 = X - Y) (k : Int → Option α) : (bif decide (r.2 = 0) then k 0 else bif r.1 then k (-1) else k 1) = k (cmpZ X Y) := by
  obtain ⟨b, n⟩ := r
  unfold cmpZ
  by_cases h0 : n = 0
  · subst h0
    have e : X = Y := by cases b <;> simp only [sgnd, if_true, if_false, Bool.false_eq_true] at h <;> omega
    subst e
    simp
  · cases b
    · simp only [sgnd, if_false, Bool.false_eq_true] at h
      simp only [h0, decide_false, cond_false, if_neg (show ¬ X < Y by omega), if_pos (show Y < X by omega)]
    · simp only [sgnd, if_true] at h
      simp only [h0, decide_false, cond_false, cond_true, if_pos (show X < Y by omega)]
theorem sgnd_neg (t : Bool) (c b : Nat) : sgnd (!t && decide (c ≠ 0)) (c * b) = - sgnd t (c * b) := by
  by_cases h : c = 0
  · subst h; cases t <;> simp [sgnd]
  · cases t <;> simp [sgnd, h]
