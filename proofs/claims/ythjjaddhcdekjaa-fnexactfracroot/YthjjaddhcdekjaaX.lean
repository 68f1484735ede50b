/-
  What the functions on fractions compute, in plain words: roots.
-/
import Derived.Test.YthjjaddhcdekjaaS
import Derived.Test.YthjjaddhcdekjaaW
namespace Go.Proofs.YthjjaddhcdekjaaAm
open Go
set_option linter.unusedVariables false
set_option linter.unusedSimpArgs false

def isSq (a : Nat) : Bool := decide (rt a * rt a = a)
def fracRoot (f : FracD) : R4 :=
  if fracOkB f = true ∧ f.1 = false ∧ isSq (val f.2.1).toNat = true ∧ isSq (val f.2.2.1).toNat = true then (false, true, digs (rt (val f.2.1).toNat), digs (rt (val f.2.2.1).toNat)) else bad4
theorem fracRoot_len (f : FracD) : (fracRoot f).2.2.1.length ≤ 256 ∧ (fracRoot f).2.2.2.length ≤ 256 := by
  unfold fracRoot
  split
  next h =>
    obtain ⟨s, a, b, rfl, ha, hb, _⟩ := fracOkB_ex h.1
    simp only [val_digs, Int.toNat_natCast]
    exact ⟨digs_len_le (rt_cap ha), digs_len_le (rt_cap hb)⟩
  next h => exact ⟨Nat.zero_le _, Nat.zero_le _⟩
theorem spec_FracRoot_eq {α : Type} (N : Nat) (f : FracD) (k : Bool → Bool → List Int → List Int → Option α) (hN : cap < N) : spec_FracRoot N f k = k (fracRoot f).1 (fracRoot f).2.1 (fracRoot f).2.2.1 (fracRoot f).2.2.2 := by
  rw [spec_FracRoot.eq]
  unfold spec_FracRoot.b fracRoot
  rw [spec_FracOk_eq N _ _ hN]
  cases h : fracOkB f
  · simp [bad4]
  obtain ⟨s, a, b, rfl, ha, hb, hb0, hg, hs⟩ := fracOkB_ex h
  cases s
  · simp only [Bool.not_true, cond_false, spec_NatRoot_eq N _ _ hN, natRoot, natOkB_digs ha, natOkB_digs hb, if_true, val_digs, Int.toNat_natCast, true_and]
    change (bif !isSq a then _ else bif !isSq b then _ else _) = _
    cases isSq a
    · simp [bad4]
    · cases isSq b
      · simp [bad4]
      · simp
  · simp [bad4]
theorem impl_FracRoot_eq {α : Type} (N : Nat) (f : FracD) (k : Bool → Bool → List Int → List Int → Option α) (hN : cap < N) : impl_FracRoot N f k = k (fracRoot f).1 (fracRoot f).2.1 (fracRoot f).2.2.1 (fracRoot f).2.2.2 := by
  rw [impl_FracRoot.eq]
  unfold impl_FracRoot.b fracRoot
  rw [impl_FracOk_eq N _ _ hN]
  cases h : fracOkB f
  · simp [bad4]
  obtain ⟨s, a, b, rfl, ha, hb, hb0, hg, hs⟩ := fracOkB_ex h
  cases s
  · have l1 := digs_len_le (rt_cap ha)
    have l2 := digs_len_le (rt_cap hb)
    simp only [Bool.not_true, cond_false, impl_natRoot_eq N a _ ha hN, impl_natRoot_eq N b _ hb hN, val_digs, Int.toNat_natCast, true_and, impl_given_eq, givenF, l1, l2, and_self, if_true]
    change (bif !isSq a then _ else bif !isSq b then _ else _) = _
    cases isSq a
    · simp [bad4]
    · cases isSq b
      · simp [bad4]
      · simp
  · simp [bad4]
theorem pure_FnExactFracRoot (x0 : FracD) (z0 : wfD (.pair .bool (.pair (.sl (.int .i64)) (.pair (.sl (.int .i64)) .unit))) x0) : ∃ N, laws_FnExactFracRoot N x0 some = some true := by
  refine ⟨cap + 1, ?_⟩
  have hN : cap < cap + 1 := by omega
  have hl1 : x0.2.1.length ≤ maxLen := z0.2.1.1
  have hl2 : x0.2.2.1.length ≤ maxLen := z0.2.2.1.1
  generalize cap + 1 = N at *
  rw [laws_FnExactFracRoot.eq]
  unfold laws_FnExactFracRoot.b
  have sz := fun k => laws_szFrac_eq (α := Bool) N x0 1048576 k hl1 hl2 (by omega)
  rw [show ((1048576 : Nat) : Int) = 1048576 from rfl] at sz
  rw [sz]
  by_cases h : x0.2.1.length + x0.2.2.1.length ≤ 1048576
  · obtain ⟨l1, l2⟩ := fracRoot_len x0
    simp only [h, if_true, cast_neg, cond_false, laws_toFrac_eq N x0 _ h hN, spec_FracRoot_eq N _ _ hN, impl_FracRoot_eq N _ _ hN]
    generalize fracRoot (x0.1, (x0.2.1, (x0.2.2.1, ()))) = r at *
    have l3 : r.2.2.1.length + r.2.2.2.length ≤ 1048576 := by omega
    have q1 : ¬ (1 + (x0.2.1.length : Int) + (x0.2.2.1.length : Int) < 0) := by omega
    have q2 : ¬ (1 + (r.2.2.1.length : Int) + (r.2.2.2.length : Int) < 0) := by omega
    simp only [laws_eqFrac_eq N _ _ _ _ l3 hN, laws_eqFrac_eq N _ _ _ _ h hN, q1, q2, laws_markFrac_eq N _ _ _ _ l3 hN, laws_markFrac_eq N _ _ _ _ h hN, laws_heldFrac_eq N _ _ _ _ l3 hN, beq_self_eq_true, decide_true, decide_false, Bool.not_true, cond_false]
  · simp [h]
end Go.Proofs.YthjjaddhcdekjaaAm
