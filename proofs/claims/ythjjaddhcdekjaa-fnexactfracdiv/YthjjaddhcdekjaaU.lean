/-
  What the functions on fractions compute, in plain words: relations, floors, quotients.
-/
import Derived.Test.YthjjaddhcdekjaaT
namespace Go.Proofs.YthjjaddhcdekjaaAm
open Go
set_option linter.unusedVariables false
set_option linter.unusedSimpArgs false

def relOf (r : Int) (f g : FracD) : Bool :=
  if fracCmp f g = 0 then decide (r = 1 ∨ r = 2 ∨ r = 3) else if fracCmp f g = -1 then decide (r = 1) else if fracCmp f g = 1 then decide (r = 2) else false
def fracFloor (f : FracD) : R4 :=
  if fracOkB f = true then
    mkF f.1 ((val f.2.1).toNat / (val f.2.2.1).toNat + if f.1 = true ∧ (val f.2.1).toNat % (val f.2.2.1).toNat ≠ 0 then 1 else 0) 1
  else bad4
theorem fracFloor_len (f : FracD) : (fracFloor f).2.2.1.length ≤ 256 ∧ (fracFloor f).2.2.2.length ≤ 256 := by
  unfold fracFloor
  split
  · exact mkF_len _ _ _
  · exact ⟨Nat.zero_le _, Nat.zero_le _⟩
theorem floor_cap {a b : Nat} (ha : a < 65536 ^ 256) (x : Nat) (hx : x ≤ 1) : a / b + x < cap0 := by
  have h1 : a / b < 65536 ^ 256 := Nat.lt_of_le_of_lt (Nat.div_le_self a b) ha
  have h2 : x < 65536 ^ 256 := Nat.lt_of_lt_of_le (show x < 65536 ^ 1 by omega) (pow_up (by omega))
  exact lt_cap0 (add_cap h1 h2) (by decide)
def fracDiv (f g : FracD) : R4 :=
  if fracOkB f = true ∧ fracOkB g = true ∧ g.2.1.length ≠ 0 then mkF (!(f.1 == g.1)) ((val f.2.1).toNat * (val g.2.2.1).toNat) ((val f.2.2.1).toNat * (val g.2.1).toNat) else bad4
theorem fracDiv_len (f g : FracD) : (fracDiv f g).2.2.1.length ≤ 256 ∧ (fracDiv f g).2.2.2.length ≤ 256 := by
  unfold fracDiv
  split
  · exact mkF_len _ _ _
  · exact ⟨Nat.zero_le _, Nat.zero_le _⟩
theorem spec_FracDiv_eq {α : Type} (N : Nat) (f g : FracD) (k : Bool → Bool → List Int → List Int → Option α) (hN : cap < N) : spec_FracDiv N f g k = k (fracDiv f g).1 (fracDiv f g).2.1 (fracDiv f g).2.2.1 (fracDiv f g).2.2.2 := by
  rw [spec_FracDiv.eq]
  unfold spec_FracDiv.b fracDiv
  simp only [spec_FracOk_eq N _ _ hN]
  cases h : fracOkB f
  · simp [bad4]
  cases h' : fracOkB g
  · simp [bad4]
  obtain ⟨s, a, b, rfl, ha, hb, hb0, hg, hs⟩ := fracOkB_ex h
  obtain ⟨t, c, d, rfl, hc, hd, hd0, hg', ht⟩ := fracOkB_ex h'
  have hca : ∀ {x}, x < 65536 ^ 256 → x < cap := fun hx => cap0_lt (c256 hx)
  have m1 := mulc ha hd
  have m2 := mulc hb hc
  by_cases hc0 : c = 0
  · subst hc0; simp [bad4, digs_zero]
  · have h4 : (digs c).length ≠ 0 := fun e => hc0 (digs_len_zero.1 e)
    have h5 : b * c ≠ 0 := by rw [Ne, Nat.mul_eq_zero]; exact fun e => e.elim hb0 hc0
    simp only [Bool.not_true, cond_false, len_cast_zero, hc0, decide_false, spec_l5Mul_eq N _ _ _ (hca ha) (hca hd) hN, spec_l5Mul_eq N _ _ _ (hca hb) (hca hc) hN, spec_l6Make_eq N _ _ _ _ m1 m2 h5 hN, h4, Ne, not_false_eq_true, and_self, if_true, val_digs, Int.toNat_natCast]
theorem impl_FracDiv_eq {α : Type} (N : Nat) (f g : FracD) (k : Bool → Bool → List Int → List Int → Option α) (hN : cap < N) : impl_FracDiv N f g k = k (fracDiv f g).1 (fracDiv f g).2.1 (fracDiv f g).2.2.1 (fracDiv f g).2.2.2 := by
  rw [impl_FracDiv.eq]
  unfold impl_FracDiv.b fracDiv
  simp only [impl_fracs_eq N [f, g] _ (show 2 < 1000 by omega) hN, List.all_cons, List.all_nil, Bool.and_true]
  cases h : fracOkB f
  · simp [bad4]
  cases h' : fracOkB g
  · simp [bad4]
  obtain ⟨s, a, b, rfl, ha, hb, hb0, hg, hs⟩ := fracOkB_ex h
  obtain ⟨t, c, d, rfl, hc, hd, hd0, hg', ht⟩ := fracOkB_ex h'
  have hca : ∀ {x}, x < 65536 ^ 256 → x < cap := fun hx => cap0_lt (c256 hx)
  have m1 := mulc ha hd
  have m2 := mulc hb hc
  by_cases hc0 : c = 0
  · subst hc0; simp [bad4, digs_zero]
  · have h4 : (digs c).length ≠ 0 := fun e => hc0 (digs_len_zero.1 e)
    have h5 : b * c ≠ 0 := by rw [Ne, Nat.mul_eq_zero]; exact fun e => e.elim hb0 hc0
    simp only [Bool.and_self, Bool.not_true, cond_false, len_cast_zero, hc0, decide_false, impl_Frac_div.eq]
    unfold impl_Frac_div.b
    simp only [impl_natMul_eq N _ _ _ (hca ha) (hca hd) hN, impl_natMul_eq N _ _ _ (hca hb) (hca hc) hN, impl_lowest_eq N _ _ _ _ m1 m2 h5 hN, impl_given_eq, given_lowest, h4, Ne, not_false_eq_true, and_self, if_true, val_digs, Int.toNat_natCast]
theorem laws_markFrac_from {α : Type} (N : Nat) (s : Bool) (c : Nat) (a b : List Int) (k : Int → List Int → List Int → Option α) (hc : c ≤ 100000000) (h : a.length + b.length ≤ 1048576) (hN : cap < N) : laws_markFrac N s (c : Int) a b k = k ((c + a.length + b.length : Nat) : Int) (markI c a) (markI (c + a.length) b) := by
  rw [laws_markFrac.eq]
  unfold laws_markFrac.b
  rw [laws_markIntS_eq N _ _ _ (by omega) (by omega) (by omega) hN, laws_markIntS_eq N _ _ _ (by omega) (by omega) (by omega) hN]
  congr 1
theorem pure_FnExactFracDiv (x0 x1 : FracD) (z0 : wfD (.pair .bool (.pair (.sl (.int .i64)) (.pair (.sl (.int .i64)) .unit))) x0) (z1 : wfD (.pair .bool (.pair (.sl (.int .i64)) (.pair (.sl (.int .i64)) .unit))) x1) : ∃ N, laws_FnExactFracDiv N x0 x1 some = some true := by
  refine ⟨cap + 1, ?_⟩
  have hN : cap < cap + 1 := by omega
  have hl1 : x0.2.1.length ≤ maxLen := z0.2.1.1
  have hl2 : x0.2.2.1.length ≤ maxLen := z0.2.2.1.1
  have hl3 : x1.2.1.length ≤ maxLen := z1.2.1.1
  have hl4 : x1.2.2.1.length ≤ maxLen := z1.2.2.1.1
  generalize cap + 1 = N at *
  rw [laws_FnExactFracDiv.eq]
  unfold laws_FnExactFracDiv.b
  have sz := fun k => laws_szFrac_eq (α := Bool) N x0 1048576 k hl1 hl2 (by omega)
  rw [show ((1048576 : Nat) : Int) = 1048576 from rfl] at sz
  rw [sz]
  by_cases h : x0.2.1.length + x0.2.2.1.length ≤ 1048576
  · simp only [h, if_true, cast_neg, cond_false]
    rw [laws_szFrac_eq N x1 _ _ hl3 hl4 (by omega)]
    by_cases h2 : x1.2.1.length + x1.2.2.1.length ≤ 1048576 - (x0.2.1.length + x0.2.2.1.length)
    · have h3 : x1.2.1.length + x1.2.2.1.length ≤ 1048576 := by omega
      obtain ⟨l1, l2⟩ := fracDiv_len x0 x1
      simp only [h2, if_true, cast_neg, cond_false, laws_toFrac_eq N x0 _ h hN, laws_toFrac_eq N x1 _ h3 hN, spec_FracDiv_eq N _ _ _ hN, impl_FracDiv_eq N _ _ _ hN]
      generalize fracDiv (x0.1, (x0.2.1, (x0.2.2.1, ()))) (x1.1, (x1.2.1, (x1.2.2.1, ()))) = r at *
      have l3 : r.2.2.1.length + r.2.2.2.length ≤ 1048576 := by omega
      have q2 : ¬ (1 + (r.2.2.1.length : Int) + (r.2.2.2.length : Int) < 0) := by omega
      simp only [laws_eqFrac_eq N _ _ _ _ l3 hN, laws_eqFrac_eq N _ _ _ _ h hN, laws_eqFrac_eq N _ _ _ _ h3 hN, q2, laws_markFrac_eq N _ _ _ _ l3 hN, laws_markFrac_eq N _ _ _ _ h hN, laws_heldFrac_eq N _ _ _ _ l3 hN, beq_self_eq_true, decide_true, decide_false, Bool.not_true, cond_false]
      rw [show (1 : Int) + x0.2.1.length + x0.2.2.1.length = ((1 + x0.2.1.length + x0.2.2.1.length : Nat) : Int) by omega, laws_markFrac_from N _ _ _ _ _ (by omega) h3 hN]
      simp only [cast_neg, cond_false]
    · simp [h2]
  · simp [h]
end Go.Proofs.YthjjaddhcdekjaaAm
