/-
  What the functions on fractions compute, in plain words: relations, floors, quotients.
-/
import Derived.Test.YthjjaddhcdekjaaT
namespace Go.Proofs.YthjjaddhcdekjaaAm
open Go
set_option linter.unusedVariables false
set_option linter.unusedSimpArgs false

def relOf (r : Int) (f g : FracD) : Bool :=
  if fracCmp f g = 0 then decide (r = 1 ∨ r = 2 ∨ r = 3) else if fracCmp f g = -1 then decide (r = 1) else if fracCmp f g = 1 then decide (r = 2) else false
theorem spec_l10Rel_eq {α : Type} (N : Nat) (r : Int) (k : Bool → Option α) : spec_l10Rel N r k = k (decide (r = 1 ∨ r = 2 ∨ r = 3)) := by
  rw [spec_l10Rel.eq]
  unfold spec_l10Rel.b
  by_cases h1 : r = 1
  · simp [h1]
  · by_cases h2 : r = 2
    · simp [h2]
    · by_cases h3 : r = 3
      · simp [h3]
      · simp [h1, h2, h3]
theorem spec_RelHolds_eq {α : Type} (N : Nat) (r : Int) (f g : FracD) (k : Bool → Option α) (hN : cap < N) : spec_RelHolds N r f g k = k (relOf r f g) := by
  rw [spec_RelHolds.eq]
  unfold spec_RelHolds.b relOf
  simp only [spec_FracCmp_eq N _ _ _ hN, spec_l10Rel_eq]
  generalize fracCmp f g = c
  by_cases h0 : c = 0
  · subst h0
    cases hr : decide (r = 1 ∨ r = 2 ∨ r = 3) <;> simp
  · by_cases h1 : c = -1
    · subst h1
      cases hr : decide (r = 1) <;> simp [hr]
    · by_cases h2 : c = 1
      · subst h2; simp
      · simp [h0, h1, h2]
theorem fracCmp_cases (f g : FracD) (h : fracOkB f = true ∧ fracOkB g = true) : fracCmp f g = -1 ∨ fracCmp f g = 0 ∨ fracCmp f g = 1 := by
  unfold fracCmp
  rw [if_pos h]
  unfold cmpZ
  split
  · simp
  · split <;> simp
theorem impl_RelHolds_eq {α : Type} (N : Nat) (r : Int) (f g : FracD) (k : Bool → Option α) (hN : cap < N) : impl_RelHolds N r f g k = k (relOf r f g) := by
  rw [impl_RelHolds.eq]
  unfold impl_RelHolds.b relOf
  simp only [impl_fracs_eq N [f, g] _ (show 2 < 1000 by omega) hN, List.all_cons, List.all_nil, Bool.and_true]
  cases h : fracOkB f
  · have : fracCmp f g = 2 := by simp [fracCmp, h]
    simp [this]
  cases h' : fracOkB g
  · have : fracCmp f g = 2 := by simp [fracCmp, h']
    simp [this]
  have hcs := fracCmp_cases f g ⟨h, h'⟩
  have hc0 : fracCmp f g = fracCmp f g := rfl
  conv at hc0 => rhs; unfold fracCmp
  rw [if_pos ⟨h, h'⟩] at hc0
  obtain ⟨s, a, b, rfl, ha, hb, hb0, hg, hs⟩ := fracOkB_ex h
  obtain ⟨t, c, d, rfl, hc, hd, hd0, hg', ht⟩ := fracOkB_ex h'
  have hca : ∀ {x}, x < 65536 ^ 256 → x < cap := fun hx => cap0_lt (c256 hx)
  have m1 := cap0_lt (mulc ha hd)
  have m2 := cap0_lt (mulc hc hb)
  simp only [val_digs, Int.toNat_natCast] at hc0
  simp only [Bool.and_self, Bool.not_true, cond_false, impl_Frac_cmp_eq N s t a b c d _ (hca ha) (hca hb) (hca hc) (hca hd) m1 m2 hb0 hd0 hs ht hN, ← hc0]
  clear hc0 m1 m2 ha hb hc hd
  generalize fracCmp (s, digs a, digs b, ()) (t, digs c, digs d, ()) = x at *
  by_cases h1 : r = 1
  · rcases hcs with e | e | e <;> subst e <;> simp [h1]
  · by_cases h2 : r = 2
    · rcases hcs with e | e | e <;> subst e <;> simp [h2]
    · by_cases h3 : r = 3
      · rcases hcs with e | e | e <;> subst e <;> simp [h3]
      · rcases hcs with e | e | e <;> subst e <;> simp [h1, h2, h3]
theorem pure_FnExactRelHolds (x0 : Int) (x1 x2 : FracD) (z0 : wfD (.int .i64) x0) (z1 : wfD (.pair .bool (.pair (.sl (.int .i64)) (.pair (.sl (.int .i64)) .unit))) x1) (z2 : wfD (.pair .bool (.pair (.sl (.int .i64)) (.pair (.sl (.int .i64)) .unit))) x2) : ∃ N, laws_FnExactRelHolds N x0 x1 x2 some = some true := by
  refine ⟨cap + 1, ?_⟩
  have hN : cap < cap + 1 := by omega
  have hl1 : x1.2.1.length ≤ maxLen := z1.2.1.1
  have hl2 : x1.2.2.1.length ≤ maxLen := z1.2.2.1.1
  have hl3 : x2.2.1.length ≤ maxLen := z2.2.1.1
  have hl4 : x2.2.2.1.length ≤ maxLen := z2.2.2.1.1
  generalize cap + 1 = N at *
  rw [laws_FnExactRelHolds.eq]
  unfold laws_FnExactRelHolds.b
  have sz := fun k => laws_szFrac_eq (α := Bool) N x1 1048576 k hl1 hl2 (by omega)
  rw [show ((1048576 : Nat) : Int) = 1048576 from rfl] at sz
  rw [sz]
  by_cases h : x1.2.1.length + x1.2.2.1.length ≤ 1048576
  · simp only [h, if_true, cast_neg, cond_false]
    rw [laws_szFrac_eq N x2 _ _ hl3 hl4 (by omega)]
    by_cases h2 : x2.2.1.length + x2.2.2.1.length ≤ 1048576 - (x1.2.1.length + x1.2.2.1.length)
    · have h3 : x2.2.1.length + x2.2.2.1.length ≤ 1048576 := by omega
      simp only [h2, if_true, cast_neg, cond_false, laws_toFrac_eq N x1 _ h hN, laws_toFrac_eq N x2 _ h3 hN, spec_RelHolds_eq N _ _ _ _ hN, impl_RelHolds_eq N _ _ _ _ hN, laws_eqFrac_eq N _ _ _ _ h hN, laws_eqFrac_eq N _ _ _ _ h3 hN, beq_self_eq_true, Bool.not_true]
    · simp [h2]
  · simp [h]
def fracFloor (f : FracD) : R4 :=
  if fracOkB f = true then
    mkF f.1 ((val f.2.1).toNat / (val f.2.2.1).toNat + if f.1 = true ∧ (val f.2.1).toNat % (val f.2.2.1).toNat ≠ 0 then 1 else 0) 1
  else bad4
theorem fracFloor_len (f : FracD) : (fracFloor f).2.2.1.length ≤ 256 ∧ (fracFloor f).2.2.2.length ≤ 256 := by
  unfold fracFloor
  split
  · exact mkF_len _ _ _
  · exact ⟨Nat.zero_le _, Nat.zero_le _⟩
theorem floor_cap {a b : Nat} (ha : a < 65536 ^ 256) (x : Nat) (hx : x ≤ 1) : a / b + x < cap0 := by
  have h1 : a / b < 65536 ^ 256 := Nat.lt_of_le_of_lt (Nat.div_le_self a b) ha
  have h2 : x < 65536 ^ 256 := Nat.lt_of_lt_of_le (show x < 65536 ^ 1 by omega) (pow_up (by omega))
  exact lt_cap0 (add_cap h1 h2) (by decide)
def fracDiv (f g : FracD) : R4 :=
  if fracOkB f = true ∧ fracOkB g = true ∧ g.2.1.length ≠ 0 then mkF (!(f.1 == g.1)) ((val f.2.1).toNat * (val g.2.2.1).toNat) ((val f.2.2.1).toNat * (val g.2.1).toNat) else bad4
theorem fracDiv_len (f g : FracD) : (fracDiv f g).2.2.1.length ≤ 256 ∧ (fracDiv f g).2.2.2.length ≤ 256 := by
  unfold fracDiv
  split
  · exact mkF_len _ _ _
  · exact ⟨Nat.zero_le _, Nat.zero_le _⟩
