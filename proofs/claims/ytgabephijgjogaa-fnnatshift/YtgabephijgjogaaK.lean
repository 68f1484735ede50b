/-
  What the functions on whole numbers compute, in plain words: quotients, divisors, roots, shifts; and the laws.
-/
import Derived.Test.YtgabephijgjogaaW
namespace Go.Proofs.YtgabephijgjogaaAm
open Go
set_option linter.unusedVariables false
set_option linter.unusedSimpArgs false

/-- A number, if it has no more digits than may be. -/
def fits (n : Nat) : List Int × Bool := if (digs n).length ≤ 256 then (digs n, true) else ([], false)
theorem impl_clone_int_eq {α : Type} (N : Nat) (l : List Int) (k1 : List Int → Option α) (h : l.length ≤ 1048576) : impl_clone_int N l k1 = k1 l := by
  rw [impl_clone_int.eq]
  unfold impl_clone_int.b slices_Clone_int_int
  have h1 : decide (List.length ([] : List Int) + List.length l ≤ 8796093022208) = true := by simp; omega
  simp only [h1, cond_true]
  rw [slices_Clip_int_int.eq]
  unfold slices_Clip_int_int.b
  simp [cast_nn]
theorem impl_told_eq {α : Type} (N n : Nat) (k : Bool → List Int → Option α) (h : n < cap) (hN : cap < N) : impl_told N (digs n) true k = k (fits n).2 (fits n).1 := by
  have hl := len_cap h
  have hNN := cap_N hN
  rw [impl_told.eq]
  unfold impl_told.b fits
  rw [impl_trim_eq N _ _ (by omega) (by omega), tl_digs]
  by_cases h1 : (digs n).length ≤ 256
  · have c1 : ¬ ((256 : Int) < (((digs n).length : Nat) : Int)) := by omega
    simp [c1, h1, impl_clone_int_eq N (digs n) _ (show (digs n).length ≤ 1048576 by omega)]
  · have c1 : ((256 : Int) < (((digs n).length : Nat) : Int)) := by omega
    simp [c1, h1]
theorem spec_l5Fits_eq {α : Type} (N n : Nat) (k : List Int → Bool → Option α) : spec_l5Fits N (digs n) k = k (fits n).1 (fits n).2 := by
  rw [spec_l5Fits.eq]
  unfold spec_l5Fits.b fits
  by_cases h : (digs n).length ≤ 256
  · have : ¬ ((256 : Int) < (((digs n).length : Nat) : Int)) := by omega
    simp [this, h]
  · have : ((256 : Int) < (((digs n).length : Nat) : Int)) := by omega
    simp [this, h]
def shN (a : Nat) (k : Int) : Nat := if k < 0 then a / 2 ^ (-k).toNat else a * 2 ^ k.toNat
def natShift (x : List Int) (k : Int) : List Int × Bool := if natOkB x = true ∧ -4096 ≤ k ∧ k ≤ 4096 then fits (shN (val x).toNat k) else ([], false)
theorem pow_lt_cap0 {i : Nat} (h : i ≤ 4096) : 2 ^ i < cap0 := by
  obtain ⟨E, hE⟩ : ∃ E, E = 257 := ⟨_, rfl⟩
  exact lt_cap0 (pow2_cap (E := E) (by omega)) (by omega)
theorem shN_cap {a : Nat} {k : Int} (ha : a < 65536 ^ 256) (h1 : k ≤ 4096) : shN a k < cap0 := by
  obtain ⟨E, hE⟩ : ∃ E, E = 257 := ⟨_, rfl⟩
  unfold shN
  split
  · exact Nat.lt_of_le_of_lt (Nat.div_le_self _ _) (c256 ha)
  · have hp : 2 ^ k.toNat < 65536 ^ E := pow2_cap (by omega)
    have := mul_cap ha hp
    exact lt_cap0 this (by omega)
theorem spec_l5Shift_eq {α : Type} (N a : Nat) (i : Int) (k : List Int → Option α) (ha : a < 65536 ^ 256) (h0 : -4096 ≤ i) (h1 : i ≤ 4096) (hN : cap < N) : spec_l5Shift N (digs a) i k = k (digs (shN a i)) := by
  rw [spec_l5Shift.eq]
  unfold spec_l5Shift.b shN
  by_cases h : i < 0
  · obtain ⟨m, rfl⟩ : ∃ m : Nat, i = -(m : Int) := ⟨i.natAbs, by omega⟩
    have hw : IntKind.i64.wrap (0 - -(m : Int)) = (m : Int) := by rw [wrap_i64 (by omega) (by omega)]; omega
    have hp : 2 ^ m < cap0 := pow_lt_cap0 (by omega)
    have hp0 : 2 ^ m ≠ 0 := by have := Nat.pow_pos (n := m) (show 0 < 2 by omega); omega
    have h2 : ¬ (0 : Int) ≤ -(m : Int) := by omega
    have h3 : (- -(m : Int)).toNat = m := by omega
    simp only [h, h2, decide_false, cond_false, hw, spec_l5Pow2_eq N m _ (show m < 1000000 by omega) hN, spec_l5Div_eq N a (2 ^ m) _ (c256 ha) hp hp0 hN, if_true, h3]
  · obtain ⟨m, rfl⟩ : ∃ m : Nat, i = (m : Int) := ⟨i.natAbs, by omega⟩
    have hp : 2 ^ m < cap0 := pow_lt_cap0 (by omega)
    simp only [h, cast_nn, cond_true, spec_l5Pow2_eq N m _ (show m < 1000000 by omega) hN, spec_l5Mul_eq N a (2 ^ m) _ (cap0_lt (c256 ha)) (cap0_lt hp) hN, if_false, Int.toNat_natCast]
theorem spec_NatShift_eq {α : Type} (N : Nat) (x : List Int) (i : Int) (k : List Int → Bool → Option α) (hN : cap < N) : spec_NatShift N x i k = k (natShift x i).1 (natShift x i).2 := by
  rw [spec_NatShift.eq]
  unfold spec_NatShift.b
  have hw : IntKind.i64.wrap (0 - 4096) = -4096 := by rw [wrap_i64 (by omega) (by omega)]; omega
  simp only [spec_NatOk_eq N _ _ hN, hw]
  cases h1 : natOkB x
  · simp [natShift, h1]
  by_cases h2 : i < -4096
  · have : ¬ -4096 ≤ i := by omega
    simp [natShift, h1, h2, this]
  by_cases h3 : 4096 < i
  · have : ¬ i ≤ 4096 := by omega
    simp [natShift, h1, h2, h3, this]
  obtain ⟨a, ha, rfl⟩ := natOkB_ex h1
  have h4 : -4096 ≤ i := by omega
  have h5 : i ≤ 4096 := by omega
  simp only [natShift, h1, h2, h3, decide_false, Bool.not_true, cond_false, spec_l5Shift_eq N a i _ ha h4 h5 hN, spec_l5Fits_eq, h4, h5, and_self, if_true, val_digs, Int.toNat_natCast]
theorem impl_NatShift_eq {α : Type} (N : Nat) (x : List Int) (i : Int) (k : Bool → List Int → Option α) (hN : cap < N) : impl_NatShift N x i k = k (natShift x i).2 (natShift x i).1 := by
  rw [impl_NatShift.eq]
  unfold impl_NatShift.b
  simp only [impl_NatOk_eq N _ _ hN, impl_in_eq]
  cases h1 : natOkB x
  · simp [natShift, h1]
  by_cases h2 : -4096 ≤ i
  · by_cases h3 : i ≤ 4096
    · obtain ⟨a, ha, rfl⟩ := natOkB_ex h1
      have hc := cap0_lt (shN_cap ha h3)
      have hs : ∀ k1 : List Int → Option α, impl_natShift N (digs a) i k1 = k1 (digs (shN a i)) := by
        intro k1
        unfold shN
        by_cases h : i < 0
        · obtain ⟨m, rfl⟩ : ∃ m : Nat, i = -(m : Int) := ⟨i.natAbs, by omega⟩
          have h3 : (- -(m : Int)).toNat = m := by omega
          rw [if_pos h, h3]
          exact impl_natShift_neg N a m k1 (cap0_lt (c256 ha)) (by omega) hN
        · obtain ⟨m, rfl⟩ : ∃ m : Nat, i = (m : Int) := ⟨i.natAbs, by omega⟩
          rw [if_neg h, Int.toNat_natCast]
          exact impl_natShift_pos N a m k1 (cap0_lt (c256 ha)) (by omega) hN
      simp only [natShift, h1, h2, h3, decide_true, Bool.and_self, Bool.not_true, cond_false, hs, impl_told_eq N (shN a i) _ hc hN, and_self, if_true, val_digs, Int.toNat_natCast]
    · simp [natShift, h1, h2, h3]
  · simp [natShift, h1, h2]
theorem laws_pwSame_loop {α : Type} (N : Nat) (a b : List Int) (hl : a.length = b.length) (hb : a.length < 4611686018427387904) (k : Bool → Option α) (k1 : Option α) : ∀ (d i n : Nat), i + d = a.length → d < n →
    laws_pwSame_L0 N n a b (i : Int) k k1 = if a.drop i = b.drop i then k1 else k false := by
  intro d
  induction d with
  | zero =>
    intro i n h hn
    obtain ⟨n, rfl⟩ : ∃ m, n = m + 1 := ⟨n - 1, by omega⟩
    rw [laws_pwSame_L0.succ]
    unfold laws_pwSame_L0r
    simp only [cast_nlt (show ¬ i < a.length by omega), cond_false]
    rw [List.drop_eq_nil_of_le (by omega), List.drop_eq_nil_of_le (by omega), if_pos rfl]
  | succ d ih =>
    intro i n h hn
    obtain ⟨n, rfl⟩ : ∃ m, n = m + 1 := ⟨n - 1, by omega⟩
    have hi : i < a.length := by omega
    have hj : i < b.length := by omega
    rw [laws_pwSame_L0.succ]
    unfold laws_pwSame_L0r
    simp only [cast_lt hi, cond_true, cast_neg, cond_false, Int.toNat_natCast, List.getElem?_eq_getElem hi, List.getElem?_eq_getElem hj, succ_i (show i < 4611686018427387904 by omega)]
    have e1 := List.drop_eq_getElem_cons hi
    have e2 := List.drop_eq_getElem_cons hj
    rw [e1, e2]
    by_cases he : a[i] = b[i]
    · simp only [he, decide_true, Bool.not_true, cond_false, List.cons.injEq, true_and]
      exact ih (i + 1) n (by omega) (by omega)
    · simp only [he, decide_false, Bool.not_false, cond_true, List.cons.injEq, false_and, if_false]
theorem laws_pwSame_eq {α : Type} (N : Nat) (a b : List Int) (k : Bool → Option α) (h : a.length ≤ 1048576) (hN : cap < N) : laws_pwSame N a b k = k (decide (a = b)) := by
  have hNN := cap_N hN
  rw [laws_pwSame.eq]
  unfold laws_pwSame.b
  by_cases hl : a.length = b.length
  · have hl2 : ((a.length : Nat) : Int) = ((b.length : Nat) : Int) := by omega
    have e := laws_pwSame_loop N a b hl (by omega) k (k true) a.length 0 N (by omega) (by omega)
    simp only [hl2, decide_true, Bool.not_true, cond_false]
    refine e.trans ?_
    by_cases he : a = b
    · simp [he]
    · simp [he]
  · have hl2 : ¬ ((a.length : Nat) : Int) = ((b.length : Nat) : Int) := by omega
    have he : ¬ a = b := fun e => hl (by rw [e])
    simp only [hl2, he, decide_false, Bool.not_false, cond_true]
end Go.Proofs.YtgabephijgjogaaAm
