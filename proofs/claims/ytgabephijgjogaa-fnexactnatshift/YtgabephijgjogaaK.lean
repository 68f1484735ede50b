/-
  What the functions on whole numbers compute, in plain words: quotients, divisors, roots, shifts; and the laws.
-/
import Derived.Test.YtgabephijgjogaaW
namespace Go.Proofs.YtgabephijgjogaaAm
open Go
set_option linter.unusedVariables false
set_option linter.unusedSimpArgs false

/-- A number, if it has no more digits than may be. -/
def fits (n : Nat) : List Int × Bool := if (digs n).length ≤ 256 then (digs n, true) else ([], false)
theorem fits_len (n : Nat) : (fits n).1.length ≤ 256 := by
  unfold fits
  split
  · assumption
  · exact Nat.zero_le _
theorem natOkB_len {l : List Int} (h : natOkB l = true) : l.length ≤ 256 := by
  obtain ⟨n, hn, rfl⟩ := natOkB_ex h
  exact digs_len_le hn
theorem impl_clone_int_eq {α : Type} (N : Nat) (l : List Int) (k1 : List Int → Option α) (h : l.length ≤ 1048576) : impl_clone_int N l k1 = k1 l := by
  rw [impl_clone_int.eq]
  unfold impl_clone_int.b slices_Clone_int_int
  have h1 : decide (List.length ([] : List Int) + List.length l ≤ 8796093022208) = true := by simp; omega
  simp only [h1, cond_true]
  rw [slices_Clip_int_int.eq]
  unfold slices_Clip_int_int.b
  simp [cast_nn]
theorem impl_told_eq {α : Type} (N n : Nat) (k : Bool → List Int → Option α) (h : n < cap) (hN : cap < N) : impl_told N (digs n) true k = k (fits n).2 (fits n).1 := by
  have hl := len_cap h
  have hNN := cap_N hN
  rw [impl_told.eq]
  unfold impl_told.b fits
  rw [impl_trim_eq N _ _ (by omega) (by omega), tl_digs]
  by_cases h1 : (digs n).length ≤ 256
  · have c1 : ¬ ((256 : Int) < (((digs n).length : Nat) : Int)) := by omega
    simp [c1, h1, impl_clone_int_eq N (digs n) _ (show (digs n).length ≤ 1048576 by omega)]
  · have c1 : ((256 : Int) < (((digs n).length : Nat) : Int)) := by omega
    simp [c1, h1]
theorem spec_l5Fits_eq {α : Type} (N n : Nat) (k : List Int → Bool → Option α) : spec_l5Fits N (digs n) k = k (fits n).1 (fits n).2 := by
  rw [spec_l5Fits.eq]
  unfold spec_l5Fits.b fits
  by_cases h : (digs n).length ≤ 256
  · have : ¬ ((256 : Int) < (((digs n).length : Nat) : Int)) := by omega
    simp [this, h]
  · have : ((256 : Int) < (((digs n).length : Nat) : Int)) := by omega
    simp [this, h]
theorem natRoot_len (l : List Int) : (natRoot l).2.2.length ≤ 256 := by
  unfold natRoot
  split
  next h =>
    obtain ⟨a, ha, rfl⟩ := natOkB_ex h
    simp only [val_digs, Int.toNat_natCast]
    exact digs_len_le (rt_cap ha)
  next h => exact Nat.zero_le _
def natDiv (x y : List Int) : Bool × List Int × List Int :=
  if natOkB x = true ∧ natOkB y = true ∧ y.length ≠ 0 then (true, digs ((val x).toNat / (val y).toNat), digs ((val x).toNat % (val y).toNat)) else (false, [], [])
theorem natDiv_digs {a b : Nat} (ha : a < 65536 ^ 256) (hb : b < 65536 ^ 256) (h : b ≠ 0) : natDiv (digs a) (digs b) = (true, digs (a / b), digs (a % b)) := by
  unfold natDiv
  rw [if_pos ⟨natOkB_digs ha, natOkB_digs hb, fun e => h (digs_len_zero.1 e)⟩]
  simp only [val_digs, Int.toNat_natCast]
theorem div_cap {a : Nat} (b : Nat) (ha : a < 65536 ^ 256) : a / b < 65536 ^ 256 := Nat.lt_of_le_of_lt (Nat.div_le_self a b) ha
theorem mod_cap {a : Nat} (b : Nat) (ha : a < 65536 ^ 256) : a % b < 65536 ^ 256 := Nat.lt_of_le_of_lt (Nat.mod_le a b) ha
theorem natDiv_len (x y : List Int) : (natDiv x y).2.1.length ≤ 256 ∧ (natDiv x y).2.2.length ≤ 256 := by
  unfold natDiv
  split
  next h =>
    obtain ⟨a, ha, rfl⟩ := natOkB_ex h.1
    obtain ⟨b, hb, rfl⟩ := natOkB_ex h.2.1
    simp only [val_digs, Int.toNat_natCast]
    exact ⟨digs_len_le (div_cap b ha), digs_len_le (mod_cap b ha)⟩
  next h => exact ⟨Nat.zero_le _, Nat.zero_le _⟩
def natGcd (x y : List Int) : Bool × List Int := if natOkB x = true ∧ natOkB y = true then (true, digs (Nat.gcd (val x).toNat (val y).toNat)) else (false, [])
theorem natGcd_digs {a b : Nat} (ha : a < 65536 ^ 256) (hb : b < 65536 ^ 256) : natGcd (digs a) (digs b) = (true, digs (Nat.gcd a b)) := by
  unfold natGcd
  rw [if_pos ⟨natOkB_digs ha, natOkB_digs hb⟩]
  simp only [val_digs, Int.toNat_natCast]
theorem gcd_cap {a b : Nat} (ha : a < 65536 ^ 256) (hb : b < 65536 ^ 256) : Nat.gcd a b < 65536 ^ 256 := by
  by_cases h : a = 0
  · rw [h, Nat.gcd_zero_left]; exact hb
  · exact Nat.lt_of_le_of_lt (Nat.gcd_le_left b (Nat.pos_of_ne_zero h)) ha
theorem natGcd_len (x y : List Int) : (natGcd x y).2.length ≤ 256 := by
  unfold natGcd
  split
  next h =>
    obtain ⟨a, ha, rfl⟩ := natOkB_ex h.1
    obtain ⟨b, hb, rfl⟩ := natOkB_ex h.2
    simp only [val_digs, Int.toNat_natCast]
    exact digs_len_le (gcd_cap ha hb)
  next h => exact Nat.zero_le _
def shN (a : Nat) (k : Int) : Nat := if k < 0 then a / 2 ^ (-k).toNat else a * 2 ^ k.toNat
def natShift (x : List Int) (k : Int) : List Int × Bool := if natOkB x = true ∧ -4096 ≤ k ∧ k ≤ 4096 then fits (shN (val x).toNat k) else ([], false)
theorem natShift_len (x : List Int) (k : Int) : (natShift x k).1.length ≤ 256 := by
  unfold natShift
  split
  · exact fits_len _
  · exact Nat.zero_le _
theorem pow_lt_cap0 {i : Nat} (h : i ≤ 4096) : 2 ^ i < cap0 := by
  obtain ⟨E, hE⟩ : ∃ E, E = 257 := ⟨_, rfl⟩
  exact lt_cap0 (pow2_cap (E := E) (by omega)) (by omega)
theorem shN_cap {a : Nat} {k : Int} (ha : a < 65536 ^ 256) (h1 : k ≤ 4096) : shN a k < cap0 := by
  obtain ⟨E, hE⟩ : ∃ E, E = 257 := ⟨_, rfl⟩
  unfold shN
  split
  · exact Nat.lt_of_le_of_lt (Nat.div_le_self _ _) (c256 ha)
  · have hp : 2 ^ k.toNat < 65536 ^ E := pow2_cap (by omega)
    have := mul_cap ha hp
    exact lt_cap0 this (by omega)
theorem spec_l5Shift_eq {α : Type} (N a : Nat) (i : Int) (k : List Int → Option α) (ha : a < 65536 ^ 256) (h0 : -4096 ≤ i) (h1 : i ≤ 4096) (hN : cap < N) : spec_l5Shift N (digs a) i k = k (digs (shN a i)) := by
  rw [spec_l5Shift.eq]
  unfold spec_l5Shift.b shN
  by_cases h : i < 0
  · obtain ⟨m, rfl⟩ : ∃ m : Nat, i = -(m : Int) := ⟨i.natAbs, by omega⟩
    have hw : IntKind.i64.wrap (0 - -(m : Int)) = (m : Int) := by rw [wrap_i64 (by omega) (by omega)]; omega
    have hp : 2 ^ m < cap0 := pow_lt_cap0 (by omega)
    have hp0 : 2 ^ m ≠ 0 := by have := Nat.pow_pos (n := m) (show 0 < 2 by omega); omega
    have h2 : ¬ (0 : Int) ≤ -(m : Int) := by omega
    have h3 : (- -(m : Int)).toNat = m := by omega
    simp only [h, h2, decide_false, cond_false, hw, spec_l5Pow2_eq N m _ (show m < 1000000 by omega) hN, spec_l5Div_eq N a (2 ^ m) _ (c256 ha) hp hp0 hN, if_true, h3]
  · obtain ⟨m, rfl⟩ : ∃ m : Nat, i = (m : Int) := ⟨i.natAbs, by omega⟩
    have hp : 2 ^ m < cap0 := pow_lt_cap0 (by omega)
    simp only [h, cast_nn, cond_true, spec_l5Pow2_eq N m _ (show m < 1000000 by omega) hN, spec_l5Mul_eq N a (2 ^ m) _ (cap0_lt (c256 ha)) (cap0_lt hp) hN, if_false, Int.toNat_natCast]
theorem spec_NatShift_eq {α : Type} (N : Nat) (x : List Int) (i : Int) (k : List Int → Bool → Option α) (hN : cap < N) : spec_NatShift N x i k = k (natShift x i).1 (natShift x i).2 := by
  rw [spec_NatShift.eq]
  unfold spec_NatShift.b
  have hw : IntKind.i64.wrap (0 - 4096) = -4096 := by rw [wrap_i64 (by omega) (by omega)]; omega
  simp only [spec_NatOk_eq N _ _ hN, hw]
  cases h1 : natOkB x
  · simp [natShift, h1]
  by_cases h2 : i < -4096
  · have : ¬ -4096 ≤ i := by omega
    simp [natShift, h1, h2, this]
  by_cases h3 : 4096 < i
  · have : ¬ i ≤ 4096 := by omega
    simp [natShift, h1, h2, h3, this]
  obtain ⟨a, ha, rfl⟩ := natOkB_ex h1
  have h4 : -4096 ≤ i := by omega
  have h5 : i ≤ 4096 := by omega
  simp only [natShift, h1, h2, h3, decide_false, Bool.not_true, cond_false, spec_l5Shift_eq N a i _ ha h4 h5 hN, spec_l5Fits_eq, h4, h5, and_self, if_true, val_digs, Int.toNat_natCast]
theorem impl_NatShift_eq {α : Type} (N : Nat) (x : List Int) (i : Int) (k : Bool → List Int → Option α) (hN : cap < N) : impl_NatShift N x i k = k (natShift x i).2 (natShift x i).1 := by
  rw [impl_NatShift.eq]
  unfold impl_NatShift.b
  simp only [impl_NatOk_eq N _ _ hN, impl_in_eq]
  cases h1 : natOkB x
  · simp [natShift, h1]
  by_cases h2 : -4096 ≤ i
  · by_cases h3 : i ≤ 4096
    · obtain ⟨a, ha, rfl⟩ := natOkB_ex h1
      have hc := cap0_lt (shN_cap ha h3)
      have hs : ∀ k1 : List Int → Option α, impl_natShift N (digs a) i k1 = k1 (digs (shN a i)) := by
        intro k1
        unfold shN
        by_cases h : i < 0
        · obtain ⟨m, rfl⟩ : ∃ m : Nat, i = -(m : Int) := ⟨i.natAbs, by omega⟩
          have h3 : (- -(m : Int)).toNat = m := by omega
          rw [if_pos h, h3]
          exact impl_natShift_neg N a m k1 (cap0_lt (c256 ha)) (by omega) hN
        · obtain ⟨m, rfl⟩ : ∃ m : Nat, i = (m : Int) := ⟨i.natAbs, by omega⟩
          rw [if_neg h, Int.toNat_natCast]
          exact impl_natShift_pos N a m k1 (cap0_lt (c256 ha)) (by omega) hN
      simp only [natShift, h1, h2, h3, decide_true, Bool.and_self, Bool.not_true, cond_false, hs, impl_told_eq N (shN a i) _ hc hN, and_self, if_true, val_digs, Int.toNat_natCast]
    · simp [natShift, h1, h2, h3]
  · simp [natShift, h1, h2]
theorem pure_FnExactNatShift (x0 : List Int) (x1 : Int) (z0 : wfD (.sl (.int .i64)) x0) (z1 : wfD (.int .i64) x1) : ∃ N, laws_FnExactNatShift N x0 x1 some = some true := by
  refine ⟨cap + 1, ?_⟩
  have hN : cap < cap + 1 := by omega
  generalize cap + 1 = N at *
  rw [laws_FnExactNatShift.eq]
  unfold laws_FnExactNatShift.b
  by_cases h1 : x0.length ≤ 1048576
  · have c1 : ¬ ((1048576 : Int) < (x0.length : Int)) := by omega
    have l1 := natShift_len x0 x1
    simp only [c1, decide_false, cond_false, laws_toIntS_eq N x0 _ h1 hN, spec_NatShift_eq N _ _ _ hN, impl_NatShift_eq N _ _ _ hN]
    generalize natShift x0 x1 = r at *
    have l3 : r.1.length ≤ 1048576 := by omega
    have q1 : ¬ (1 + (x0.length : Int) < 0) := by omega
    have q2 : ¬ (1 + (r.1.length : Int) < 0) := by omega
    simp only [laws_eqIntS_eq N _ _ l3 hN, laws_eqIntS_eq N _ _ h1 hN, laws_markIntS_eq N 1 _ _ h1 (show (0 : Int) ≤ 1 by omega) (show (1 : Int) ≤ 1073741824 by omega) hN, laws_markIntS_eq N 1 _ _ l3 (show (0 : Int) ≤ 1 by omega) (show (1 : Int) ≤ 1073741824 by omega) hN, q1, q2,
      laws_heldIntS_eq N 1 _ _ l3 (show (0 : Int) ≤ 1 by omega) (show (1 : Int) ≤ 1073741824 by omega) hN, beq_self_eq_true, decide_true, decide_false, Bool.not_true, cond_false]
  · have c1 : ((1048576 : Int) < (x0.length : Int)) := by omega
    simp [c1]
end Go.Proofs.YtgabephijgjogaaAm
