/-
  What the laws' own functions on naturals and fractions compute, and which naturals and fractions are good.
-/
import Derived.Test.YtgabephijgjogaaQ
namespace Go.Proofs.YtgabephijgjogaaAm
open Go
set_option linter.unusedVariables false
set_option linter.unusedSimpArgs false

theorem impl_NatOk_index {α : Type} (N : Nat) (l : List Int) (hb : l.length < 4611686018427387904) (k : Int → Option α) (k1 : Option α) : ∀ (d i n : Nat), i + d = l.length → d < n →
    (l.drop i).all digB = true ∧ slices_IndexFunc_int_int__impl_NatOk_1_L0 N n l l.length i k k1 = k1 ∨ (l.drop i).all digB = false ∧ ∃ j : Nat, slices_IndexFunc_int_int__impl_NatOk_1_L0 N n l l.length i k k1 = k j := by
  intro d
  induction d with
  | zero =>
    intro i n h hn
    obtain ⟨m, rfl⟩ : ∃ m, n = m + 1 := ⟨n - 1, by omega⟩
    left
    rw [slices_IndexFunc_int_int__impl_NatOk_1_L0.succ]
    unfold slices_IndexFunc_int_int__impl_NatOk_1_L0r
    simp only [cast_nlt (show ¬ i < l.length by omega), cond_false]
    rw [List.drop_of_length_le (by omega)]; simp
  | succ d ih =>
    intro i n h hn
    obtain ⟨m, rfl⟩ : ∃ m, n = m + 1 := ⟨n - 1, by omega⟩
    have hi : i < l.length := by omega
    rw [slices_IndexFunc_int_int__impl_NatOk_1_L0.succ]
    unfold slices_IndexFunc_int_int__impl_NatOk_1_L0r
    simp only [impl_NatOk_1.eq]
    unfold impl_NatOk_1.b
    simp only [impl_in_eq, cast_lt hi, cast_neg, cond_true, cond_false, Int.toNat_natCast, List.getElem?_eq_getElem hi, succ_i (show i < 4611686018427387904 by omega)]
    have e1 := List.drop_eq_getElem_cons hi
    rw [e1, List.all_cons]
    have e2 : (decide (0 ≤ l[i]) && decide (l[i] ≤ 65535)) = digB l[i] := by
      unfold digB
      congr 1
      by_cases hh : l[i] < 65536
      · simp [hh]; omega
      · simp [hh]; omega
    rw [e2]
    cases he : digB l[i]
    · right
      exact ⟨by simp, i, by simp⟩
    · simp only [Bool.not_true, cond_false, Bool.true_and]
      exact ih (i + 1) m (by omega) (by omega)
theorem impl_NatOk_eq {α : Type} (N : Nat) (l : List Int) (k : Bool → Option α) (hN : cap < N) : impl_NatOk N l k = k (natOkB l) := by
  have hN := cap_N hN
  rw [impl_NatOk.eq]
  unfold impl_NatOk.b natOkB
  by_cases h : l.length ≤ 256
  · have h1 : ((l.length : Int) ≤ 256) := by omega
    have hc : ∀ k1 : Bool → Option α, slices_ContainsFunc_int_int__impl_NatOk_1 N l k1 = k1 (!l.all digB) := by
      intro k1
      rw [slices_ContainsFunc_int_int__impl_NatOk_1.eq]
      unfold slices_ContainsFunc_int_int__impl_NatOk_1.b
      rw [slices_IndexFunc_int_int__impl_NatOk_1.eq]
      unfold slices_IndexFunc_int_int__impl_NatOk_1.b
      rcases impl_NatOk_index (α := α) N l (by omega) (fun x => k1 (decide ((0 : Int) ≤ x))) (k1 (decide ((0 : Int) ≤ -1))) l.length 0 N (by omega) (by omega) with ⟨e1, e2⟩ | ⟨e1, j, e2⟩
      · rw [List.drop_zero] at e1
        rw [e1]
        refine e2.trans ?_
        simp
      · rw [List.drop_zero] at e1
        rw [e1]
        refine e2.trans ?_
        simp
    simp only [h1, decide_true, cond_true, h, Bool.true_and, hc, Bool.not_not]
    by_cases h2 : l.length = 0
    · have h3 : ((l.length : Int) = 0) := by omega
      simp [h2]
    · have h3 : ¬ ((l.length : Int) = 0) := by omega
      have h4 : IntKind.i64.wrap ((l.length : Int) - 1) = ((l.length - 1 : Nat) : Int) := by rw [wrap_i64 (by omega) (by omega)]; omega
      have h5 : l.length - 1 < l.length := by omega
      simp only [h3, h4, decide_false, cond_false, cast_neg, Int.toNat_natCast, List.getElem?_eq_getElem h5, getD_at h5, h2, Bool.false_or]
      by_cases h6 : l.getD (l.length - 1) 0 = 0
      · simp only [h6, decide_true, Bool.not_true, cond_false]; simp
      · simp only [h6, decide_false, Bool.not_false, cond_true, Ne, not_false_eq_true, decide_true, Bool.and_true]
  · have h1 : ¬ ((l.length : Int) ≤ 256) := by omega
    simp [h, h1]
theorem impl_nats_index {α : Type} (N : Nat) (hN : cap < N) (l : List (List Int)) (hb : l.length < 4611686018427387904) (k : Int → Option α) (k1 : Option α) : ∀ (d i n : Nat), i + d = l.length → d < n →
    (l.drop i).all natOkB = true ∧ slices_IndexFunc_int_int__impl_nats_1_L0 N n l l.length i k k1 = k1 ∨ (l.drop i).all natOkB = false ∧ ∃ j : Nat, slices_IndexFunc_int_int__impl_nats_1_L0 N n l l.length i k k1 = k j := by
  intro d
  induction d with
  | zero =>
    intro i n h hn
    obtain ⟨m, rfl⟩ : ∃ m, n = m + 1 := ⟨n - 1, by omega⟩
    left
    rw [slices_IndexFunc_int_int__impl_nats_1_L0.succ]
    unfold slices_IndexFunc_int_int__impl_nats_1_L0r
    simp only [cast_nlt (show ¬ i < l.length by omega), cond_false]
    rw [List.drop_of_length_le (by omega)]; simp
  | succ d ih =>
    intro i n h hn
    obtain ⟨m, rfl⟩ : ∃ m, n = m + 1 := ⟨n - 1, by omega⟩
    have hi : i < l.length := by omega
    rw [slices_IndexFunc_int_int__impl_nats_1_L0.succ]
    unfold slices_IndexFunc_int_int__impl_nats_1_L0r
    simp only [impl_nats_1.eq]
    unfold impl_nats_1.b
    simp only [impl_NatOk_eq N _ _ hN, cast_lt hi, cast_neg, cond_true, cond_false, Int.toNat_natCast, List.getElem?_eq_getElem hi, succ_i (show i < 4611686018427387904 by omega)]
    have e1 := List.drop_eq_getElem_cons hi
    rw [e1, List.all_cons]
    cases he : natOkB l[i]
    · right
      exact ⟨by simp, i, by simp⟩
    · simp only [Bool.not_true, cond_false, Bool.true_and]
      exact ih (i + 1) m (by omega) (by omega)
theorem impl_nats_eq {α : Type} (N : Nat) (l : List (List Int)) (k : Bool → Option α) (hl : l.length < 1000) (hN : cap < N) : impl_nats N l k = k (l.all natOkB) := by
  have hN' := cap_N hN
  rw [impl_nats.eq]
  unfold impl_nats.b
  rw [slices_ContainsFunc_int_int__impl_nats_1.eq]
  unfold slices_ContainsFunc_int_int__impl_nats_1.b
  rw [slices_IndexFunc_int_int__impl_nats_1.eq]
  unfold slices_IndexFunc_int_int__impl_nats_1.b
  rcases impl_nats_index (α := α) N hN l (by omega) (fun x => k (!decide ((0 : Int) ≤ x))) (k (!decide ((0 : Int) ≤ -1))) l.length 0 N (by omega) (by omega) with ⟨e1, e2⟩ | ⟨e1, j, e2⟩
  · rw [List.drop_zero] at e1
    rw [e1]
    refine e2.trans ?_
    simp
  · rw [List.drop_zero] at e1
    rw [e1]
    refine e2.trans ?_
    simp
theorem len_cast_zero (a : Nat) : decide (((digs a).length : Int) = 0) = decide (a = 0) := by
  by_cases h : a = 0
  · subst h; simp [digs_zero]
  · have h2 : (digs a).length ≠ 0 := fun e => h (digs_len_zero.1 e)
    have : ¬ (((digs a).length : Int) = 0) := by omega
    simp only [h, this, decide_false]
theorem c256 {a : Nat} (h : a < 65536 ^ 256) : a < cap0 := lt_cap0 h (by omega)
theorem cap0_lt {a : Nat} (h : a < cap0) : a < cap := by have := cap0_step; omega
end Go.Proofs.YtgabephijgjogaaAm
