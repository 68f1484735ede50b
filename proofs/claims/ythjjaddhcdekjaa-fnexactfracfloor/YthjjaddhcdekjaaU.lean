/-
  What the functions on fractions compute, in plain words: relations, floors, quotients.
-/
import Derived.Test.YthjjaddhcdekjaaT
namespace Go.Proofs.YthjjaddhcdekjaaAm
open Go
set_option linter.unusedVariables false
set_option linter.unusedSimpArgs false

def relOf (r : Int) (f g : FracD) : Bool :=
  if fracCmp f g = 0 then decide (r = 1 ∨ r = 2 ∨ r = 3) else if fracCmp f g = -1 then decide (r = 1) else if fracCmp f g = 1 then decide (r = 2) else false
theorem fracCmp_cases (f g : FracD) (h : fracOkB f = true ∧ fracOkB g = true) : fracCmp f g = -1 ∨ fracCmp f g = 0 ∨ fracCmp f g = 1 := by
  unfold fracCmp
  rw [if_pos h]
  unfold cmpZ
  split
  · simp
  · split <;> simp
def fracFloor (f : FracD) : R4 :=
  if fracOkB f = true then
    mkF f.1 ((val f.2.1).toNat / (val f.2.2.1).toNat + if f.1 = true ∧ (val f.2.1).toNat % (val f.2.2.1).toNat ≠ 0 then 1 else 0) 1
  else bad4
theorem fracFloor_len (f : FracD) : (fracFloor f).2.2.1.length ≤ 256 ∧ (fracFloor f).2.2.2.length ≤ 256 := by
  unfold fracFloor
  split
  · exact mkF_len _ _ _
  · exact ⟨Nat.zero_le _, Nat.zero_le _⟩
theorem floor_cap {a b : Nat} (ha : a < 65536 ^ 256) (x : Nat) (hx : x ≤ 1) : a / b + x < cap0 := by
  have h1 : a / b < 65536 ^ 256 := Nat.lt_of_le_of_lt (Nat.div_le_self a b) ha
  have h2 : x < 65536 ^ 256 := Nat.lt_of_lt_of_le (show x < 65536 ^ 1 by omega) (pow_up (by omega))
  exact lt_cap0 (add_cap h1 h2) (by decide)
theorem spec_FracFloor_eq {α : Type} (N : Nat) (f : FracD) (k : Bool → Bool → List Int → List Int → Option α) (hN : cap < N) : spec_FracFloor N f k = k (fracFloor f).1 (fracFloor f).2.1 (fracFloor f).2.2.1 (fracFloor f).2.2.2 := by
  rw [spec_FracFloor.eq]
  unfold spec_FracFloor.b fracFloor
  rw [spec_FracOk_eq N _ _ hN]
  cases h : fracOkB f
  · simp [bad4]
  obtain ⟨s, a, b, rfl, ha, hb, hb0, hg, hs⟩ := fracOkB_ex h
  have h1c : (1 : Nat) < cap := by have := cap_ge; omega
  have h1c0 : (1 : Nat) < cap0 := by have := cap0_pos; omega
  have f0 := floor_cap (b := b) ha 0 (by omega)
  have f1 := floor_cap (b := b) ha 1 (by omega)
  simp only [Bool.not_true, cond_false, spec_l5Div_eq N a b _ (c256 ha) (c256 hb) hb0 hN, spec_FracFloor_J4.eq]
  unfold spec_FracFloor_J4.b
  simp only [val_digs, Int.toNat_natCast, if_true, len_cast_pos, ← digs1, spec_l5Add_eq N (a / b) 1 _ (cap0_lt f0) h1c hN]
  generalize a / b = q at *
  generalize a % b = r at *
  cases s
  · simp only [cond_false, Bool.false_eq_true, false_and, if_false, spec_l6Make_eq N _ q 1 _ f0 h1c0 (by omega) hN, Nat.add_zero]
  · by_cases hr : r = 0
    · simp only [hr, cond_true, Ne, not_true_eq_false, decide_false, cond_false, and_false, if_false, Nat.add_zero, spec_l6Make_eq N _ q 1 _ f0 h1c0 (by omega) hN]
    · simp only [hr, cond_true, Ne, not_false_eq_true, decide_true, and_self, if_true, spec_l6Make_eq N _ (q + 1) 1 _ f1 h1c0 (by omega) hN]
theorem impl_whole_eq {α : Type} (N : Nat) (s : Bool) (q : Nat) (k : Bool → List Int → List Int → Option α) : impl_whole N s (digs q) k = k (s && decide (q ≠ 0)) (digs q) (digs 1) := by
  rw [impl_whole.eq]
  unfold impl_whole.b
  simp only [len_cast_pos, ← digs1]
  cases s
  · simp only [cond_false, Bool.false_and]
  · simp only [cond_true, Bool.true_and]
theorem impl_FracFloor_eq {α : Type} (N : Nat) (f : FracD) (k : Bool → Bool → List Int → List Int → Option α) (hN : cap < N) : impl_FracFloor N f k = k (fracFloor f).1 (fracFloor f).2.1 (fracFloor f).2.2.1 (fracFloor f).2.2.2 := by
  rw [impl_FracFloor.eq]
  unfold impl_FracFloor.b fracFloor
  rw [impl_one__impl_FracFloor_1.eq]
  unfold impl_one__impl_FracFloor_1.b
  rw [impl_FracOk_eq N _ _ hN]
  cases h : fracOkB f
  · simp [bad4]
  obtain ⟨s, a, b, rfl, ha, hb, hb0, hg, hs⟩ := fracOkB_ex h
  have h1c : (1 : Nat) < cap := by have := cap_ge; omega
  have f0 := floor_cap (b := b) ha 0 (by omega)
  simp only [Bool.not_true, cond_false, if_true, impl_FracFloor_1.eq]
  unfold impl_FracFloor_1.b
  simp only [impl_natDiv_eq N a b _ (c256 ha) (c256 hb) hb0 hN, impl_FracFloor_1_J2.eq]
  unfold impl_FracFloor_1_J2.b
  simp only [val_digs, Int.toNat_natCast, len_cast_pos, ← digs1, impl_natAdd_eq N (a / b) 1 _ (cap0_lt f0) h1c hN]
  generalize a / b = q at *
  generalize a % b = r at *
  have hg1 : ∀ x : Nat, ∀ s : Bool, givenF (s && decide (x ≠ 0), (digs x, (digs 1, ()))) = mkF s x 1 := by
    intro x s
    have := given_lowest s x 1
    rwa [Nat.gcd_one_right, Nat.div_one, Nat.div_one] at this
  cases s
  · simp only [cond_false, Bool.false_eq_true, false_and, if_false, impl_whole_eq, impl_given_eq, hg1, Nat.add_zero]
  · by_cases hr : r = 0
    · simp only [hr, cond_true, Ne, not_true_eq_false, decide_false, cond_false, and_false, if_false, Nat.add_zero, impl_whole_eq, impl_given_eq]
      have := hg1 q true
      simp only [Ne] at this
      rw [this]
    · simp only [hr, cond_true, Ne, not_false_eq_true, decide_true, and_self, if_true, impl_whole_eq, impl_given_eq]
      have := hg1 (q + 1) true
      simp only [Ne] at this
      rw [this]
theorem pure_FnExactFracFloor (x0 : FracD) (z0 : wfD (.pair .bool (.pair (.sl (.int .i64)) (.pair (.sl (.int .i64)) .unit))) x0) : ∃ N, laws_FnExactFracFloor N x0 some = some true := by
  refine ⟨cap + 1, ?_⟩
  have hN : cap < cap + 1 := by omega
  have hl1 : x0.2.1.length ≤ maxLen := z0.2.1.1
  have hl2 : x0.2.2.1.length ≤ maxLen := z0.2.2.1.1
  generalize cap + 1 = N at *
  rw [laws_FnExactFracFloor.eq]
  unfold laws_FnExactFracFloor.b
  have sz := fun k => laws_szFrac_eq (α := Bool) N x0 1048576 k hl1 hl2 (by omega)
  rw [show ((1048576 : Nat) : Int) = 1048576 from rfl] at sz
  rw [sz]
  by_cases h : x0.2.1.length + x0.2.2.1.length ≤ 1048576
  · obtain ⟨l1, l2⟩ := fracFloor_len x0
    simp only [h, if_true, cast_neg, cond_false, laws_toFrac_eq N x0 _ h hN, spec_FracFloor_eq N _ _ hN, impl_FracFloor_eq N _ _ hN]
    generalize fracFloor (x0.1, (x0.2.1, (x0.2.2.1, ()))) = r at *
    have l3 : r.2.2.1.length + r.2.2.2.length ≤ 1048576 := by omega
    have q1 : ¬ (1 + (x0.2.1.length : Int) + (x0.2.2.1.length : Int) < 0) := by omega
    have q2 : ¬ (1 + (r.2.2.1.length : Int) + (r.2.2.2.length : Int) < 0) := by omega
    simp only [laws_eqFrac_eq N _ _ _ _ l3 hN, laws_eqFrac_eq N _ _ _ _ h hN, q1, q2, laws_markFrac_eq N _ _ _ _ l3 hN, laws_markFrac_eq N _ _ _ _ h hN, laws_heldFrac_eq N _ _ _ _ l3 hN, beq_self_eq_true, decide_true, decide_false, Bool.not_true, cond_false]
  · simp [h]
def fracDiv (f g : FracD) : R4 :=
  if fracOkB f = true ∧ fracOkB g = true ∧ g.2.1.length ≠ 0 then mkF (!(f.1 == g.1)) ((val f.2.1).toNat * (val g.2.2.1).toNat) ((val f.2.2.1).toNat * (val g.2.1).toNat) else bad4
theorem fracDiv_len (f g : FracD) : (fracDiv f g).2.2.1.length ≤ 256 ∧ (fracDiv f g).2.2.2.length ≤ 256 := by
  unfold fracDiv
  split
  · exact mkF_len _ _ _
  · exact ⟨Nat.zero_le _, Nat.zero_le _⟩
theorem laws_markFrac_from {α : Type} (N : Nat) (s : Bool) (c : Nat) (a b : List Int) (k : Int → List Int → List Int → Option α) (hc : c ≤ 100000000) (h : a.length + b.length ≤ 1048576) (hN : cap < N) : laws_markFrac N s (c : Int) a b k = k ((c + a.length + b.length : Nat) : Int) (markI c a) (markI (c + a.length) b) := by
  rw [laws_markFrac.eq]
  unfold laws_markFrac.b
  rw [laws_markIntS_eq N _ _ _ (by omega) (by omega) (by omega) hN, laws_markIntS_eq N _ _ _ (by omega) (by omega) (by omega) hN]
  congr 1
end Go.Proofs.YthjjaddhcdekjaaAm
