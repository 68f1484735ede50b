/-
  What the laws' own functions on naturals and fractions compute, and which naturals and fractions are good.
-/
import Derived.Test.YtnhbcpmmdblkjaaGreatDoorQ
namespace Go.Proofs.YtnhbcpmmdblkjaaGreatDoorAm
open Go
set_option linter.unusedVariables false
set_option linter.unusedSimpArgs false

abbrev FracD := Bool × (List Int) × (List Int) × Unit
theorem impl_NatOk_index {α : Type} (N : Nat) (l : List Int) (hb : l.length < 4611686018427387904) (k : Int → Option α) (k1 : Option α) : ∀ (d i n : Nat), i + d = l.length → d < n →
    (l.drop i).all digB = true ∧ slices_IndexFunc_int_int__impl_NatOk_1_L0 N n l l.length i k k1 = k1 ∨ (l.drop i).all digB = false ∧ ∃ j : Nat, slices_IndexFunc_int_int__impl_NatOk_1_L0 N n l l.length i k k1 = k j := by
  intro d
  induction d with
  | zero =>
    intro i n h hn
    obtain ⟨m, rfl⟩ : ∃ m, n = m + 1 := ⟨n - 1, by omega⟩
    left
    rw [slices_IndexFunc_int_int__impl_NatOk_1_L0.succ]
    unfold slices_IndexFunc_int_int__impl_NatOk_1_L0r
    simp only [cast_nlt (show ¬ i < l.length by omega), cond_false]
    rw [List.drop_of_length_le (by omega)]; simp
  | succ d ih =>
    intro i n h hn
    obtain ⟨m, rfl⟩ : ∃ m, n = m + 1 := ⟨n - 1, by omega⟩
    have hi : i < l.length := by omega
    rw [slices_IndexFunc_int_int__impl_NatOk_1_L0.succ]
    unfold slices_IndexFunc_int_int__impl_NatOk_1_L0r
    simp only [impl_NatOk_1.eq]
    unfold impl_NatOk_1.b
    simp only [impl_in_eq, cast_lt hi, cast_neg, cond_true, cond_false, Int.toNat_natCast, List.getElem?_eq_getElem hi, succ_i (show i < 4611686018427387904 by omega)]
    have e1 := List.drop_eq_getElem_cons hi
    rw [e1, List.all_cons]
    have e2 : (decide (0 ≤ l[i]) && decide (l[i] ≤ 65535)) = digB l[i] := by
      unfold digB
      congr 1
      by_cases hh : l[i] < 65536
      · simp [hh]; omega
      · simp [hh]; omega
    rw [e2]
    cases he : digB l[i]
    · right
      exact ⟨by simp, i, by simp⟩
    · simp only [Bool.not_true, cond_false, Bool.true_and]
      exact ih (i + 1) m (by omega) (by omega)
theorem impl_NatOk_eq {α : Type} (N : Nat) (l : List Int) (k : Bool → Option α) (hN : cap < N) : impl_NatOk N l k = k (natOkB l) := by
 have hN := cap_N hN
 rw [impl_NatOk.eq]
 unfold impl_NatOk.b natOkB
 by_cases h : l.length ≤ 256
 ·have h1 : ((l.length : Int) ≤ 256) := by omega
  have hc : ∀ k1 : Bool → Option α, slices_ContainsFunc_int_int__impl_NatOk_1 N l k1 = k1 (!l.all digB) := by
   intro k1
   rw [slices_ContainsFunc_int_int__impl_NatOk_1.eq]
   unfold slices_ContainsFunc_int_int__impl_NatOk_1.b
   rw [slices_IndexFunc_int_int__impl_NatOk_1.eq]
   unfold slices_IndexFunc_int_int__impl_NatOk_1.b
   rcases impl_NatOk_index (α := α) N l (by omega) (fun x => k1 (decide ((0 : Int) ≤ x))) (k1 (decide ((0 : Int) ≤ -1))) l.length 0 N (by omega) (by omega) with ⟨e1, e2⟩ | ⟨e1, j, e2⟩
   ·rw [List.drop_zero] at e1
    rw [e1]
    refine e2.trans ?_
    simp
   ·rw [List.drop_zero] at e1
    rw [e1]
    refine e2.trans ?_
    simp
  simp only [h1, decide_true, cond_true, h, Bool.true_and, hc, Bool.not_not]
  by_cases h2 : l.length = 0
  ·have h3 : ((l.length : Int) = 0) := by omega
   simp [h2]
  ·have h3 : ¬ ((l.length : Int) = 0) := by omega
   have h4 : IntKind.i64.wrap ((l.length : Int) - 1) = ((l.length - 1 : Nat) : Int) := by rw [wrap_i64 (by omega) (by omega)]; omega
   have h5 : l.length - 1 < l.length := by omega
   simp only [h3, h4, decide_false, cond_false, cast_neg, Int.toNat_natCast, List.getElem?_eq_getElem h5, getD_at h5, h2, Bool.false_or]
   by_cases h6 : l.getD (l.length - 1) 0 = 0
   ·simp only [h6, decide_true, Bool.not_true, cond_false]; simp
   ·simp only [h6, decide_false, Bool.not_false, cond_true, Ne, not_false_eq_true, decide_true, Bool.and_true]
 ·have h1 : ¬ ((l.length : Int) ≤ 256) := by omega
  simp [h, h1]
theorem impl_nats_index {α : Type} (N : Nat) (hN : cap < N) (l : List (List Int)) (hb : l.length < 4611686018427387904) (k : Int → Option α) (k1 : Option α) : ∀ (d i n : Nat), i + d = l.length → d < n →
    (l.drop i).all natOkB = true ∧ slices_IndexFunc_int_int__impl_nats_1_L0 N n l l.length i k k1 = k1 ∨ (l.drop i).all natOkB = false ∧ ∃ j : Nat, slices_IndexFunc_int_int__impl_nats_1_L0 N n l l.length i k k1 = k j := by
  intro d
  induction d with
  | zero =>
    intro i n h hn
    obtain ⟨m, rfl⟩ : ∃ m, n = m + 1 := ⟨n - 1, by omega⟩
    left
    rw [slices_IndexFunc_int_int__impl_nats_1_L0.succ]
    unfold slices_IndexFunc_int_int__impl_nats_1_L0r
    simp only [cast_nlt (show ¬ i < l.length by omega), cond_false]
    rw [List.drop_of_length_le (by omega)]; simp
  | succ d ih =>
    intro i n h hn
    obtain ⟨m, rfl⟩ : ∃ m, n = m + 1 := ⟨n - 1, by omega⟩
    have hi : i < l.length := by omega
    rw [slices_IndexFunc_int_int__impl_nats_1_L0.succ]
    unfold slices_IndexFunc_int_int__impl_nats_1_L0r
    simp only [impl_nats_1.eq]
    unfold impl_nats_1.b
    simp only [impl_NatOk_eq N _ _ hN, cast_lt hi, cast_neg, cond_true, cond_false, Int.toNat_natCast, List.getElem?_eq_getElem hi, succ_i (show i < 4611686018427387904 by omega)]
    have e1 := List.drop_eq_getElem_cons hi
    rw [e1, List.all_cons]
    cases he : natOkB l[i]
    · right
      exact ⟨by simp, i, by simp⟩
    · simp only [Bool.not_true, cond_false, Bool.true_and]
      exact ih (i + 1) m (by omega) (by omega)
theorem impl_nats_eq {α : Type} (N : Nat) (l : List (List Int)) (k : Bool → Option α) (hl : l.length < 1000) (hN : cap < N) : impl_nats N l k = k (l.all natOkB) := by
 have hN' := cap_N hN
 rw [impl_nats.eq]
 unfold impl_nats.b
 rw [slices_ContainsFunc_int_int__impl_nats_1.eq]
 unfold slices_ContainsFunc_int_int__impl_nats_1.b
 rw [slices_IndexFunc_int_int__impl_nats_1.eq]
 unfold slices_IndexFunc_int_int__impl_nats_1.b
 rcases impl_nats_index (α := α) N hN l (by omega) (fun x => k (!decide ((0 : Int) ≤ x))) (k (!decide ((0 : Int) ≤ -1))) l.length 0 N (by omega) (by omega) with ⟨e1, e2⟩ | ⟨e1, j, e2⟩
 ·rw [List.drop_zero] at e1
  rw [e1]
  refine e2.trans ?_
  simp
 ·rw [List.drop_zero] at e1
  rw [e1]
  refine e2.trans ?_
  simp
def fracOkB (f : FracD) : Bool := natOkB f.2.1 && natOkB f.2.2.1 && decide (f.2.2.1.length ≠ 0) && (!f.1 || decide (f.2.1.length ≠ 0)) && decide (Nat.gcd (val f.2.1).toNat (val f.2.2.1).toNat = 1)
theorem fracOkB_ex {f : FracD} (h : fracOkB f = true) : ∃ s a b, f = (s, (digs a, (digs b, ()))) ∧ a < 65536 ^ 256 ∧ b < 65536 ^ 256 ∧ b ≠ 0 ∧ Nat.gcd a b = 1 ∧ (s = true → a ≠ 0) := by
 obtain ⟨s, n, d, u⟩ := f
 simp only [fracOkB, Bool.and_eq_true, decide_eq_true_eq, Bool.or_eq_true] at h
 obtain ⟨⟨⟨⟨h1, h2⟩, h3⟩, h4⟩, h5⟩ := h
 obtain ⟨a, ha, rfl⟩ := natOkB_ex h1
 obtain ⟨b, hb, rfl⟩ := natOkB_ex h2
 rw [val_digs, val_digs] at h5
 refine ⟨s, a, b, rfl, ha, hb, fun e => h3 (digs_len_zero.2 e), by simpa using h5, fun hs e => ?_⟩
 rcases h4 with h4 | h4
 ·rw [hs] at h4; simp at h4
 ·exact h4 (digs_len_zero.2 e)
theorem len_cast_zero (a : Nat) : decide (((digs a).length : Int) = 0) = decide (a = 0) := by
 by_cases h : a = 0
 ·subst h; simp [digs_zero]
 ·have h2 : (digs a).length ≠ 0 := fun e => h (digs_len_zero.1 e)
  have : ¬ (((digs a).length : Int) = 0) := by omega
  simp only [h, this, decide_false]
theorem len_cast_pos (a : Nat) : decide ((0 : Int) < ((digs a).length : Int)) = decide (a ≠ 0) := by
 by_cases h : a = 0
 ·subst h; simp [digs_zero]
 ·have h2 : (digs a).length ≠ 0 := fun e => h (digs_len_zero.1 e)
  have : (0 : Int) < ((digs a).length : Int) := by omega
  simp only [h, this, Ne, not_false_eq_true, decide_true]
theorem c256 {a : Nat} (h : a < 65536 ^ 256) : a < cap0 := lt_cap0 h (by omega)
theorem cap0_lt {a : Nat} (h : a < cap0) : a < cap := by have := cap0_step; omega
theorem digs1 : digs 1 = [(1 : Int)] := digs_one (by omega) (by omega)
theorem spec_FracOk_eq {α : Type} (N : Nat) (f : FracD) (k : Bool → Option α) (hN : cap < N) : spec_FracOk N f k = k (fracOkB f) := by
 rw [spec_FracOk.eq]
 unfold spec_FracOk.b fracOkB
 simp only [spec_NatOk_eq N _ _ hN]
 cases h1 : natOkB f.2.1
 ·simp
 cases h2 : natOkB f.2.2.1
 ·simp
 obtain ⟨a, ha, ea⟩ := natOkB_ex h1
 obtain ⟨b, hb, eb⟩ := natOkB_ex h2
 rw [ea, eb]
 simp only [Bool.not_true, cond_false, len_cast_zero, val_digs, Int.toNat_natCast, Ne, digs_len_zero, spec_l5Gcd_eq N a b _ (c256 ha) (c256 hb) hN, spec_l6One_eq]
 by_cases h3 : b = 0
 ·simp [h3]
 ·by_cases h4 : a = 0
  ·cases f.1 <;> simp [h3, h4]
  ·simp [h3, h4]
theorem impl_FracOk_eq {α : Type} (N : Nat) (f : FracD) (k : Bool → Option α) (hN : cap < N) : impl_FracOk N f k = k (fracOkB f) := by
 rw [impl_FracOk.eq]
 unfold impl_FracOk.b fracOkB
 simp only [impl_nats_eq N [f.2.1, f.2.2.1] _ (show 2 < 1000 by omega) hN, List.all_cons, List.all_nil, Bool.and_true]
 cases h1 : natOkB f.2.1
 ·simp
 cases h2 : natOkB f.2.2.1
 ·simp
 obtain ⟨a, ha, ea⟩ := natOkB_ex h1
 obtain ⟨b, hb, eb⟩ := natOkB_ex h2
 rw [ea, eb]
 have hg : Nat.gcd a b < cap ∨ b = 0 := by
  by_cases h3 : b = 0
  ·exact Or.inr h3
  ·exact Or.inl (Nat.lt_of_le_of_lt (Nat.gcd_le_right _ (Nat.pos_of_ne_zero h3)) (cap0_lt (c256 hb)))
 have h1c : (1 : Nat) < cap := by have := cap_ge; omega
 simp only [Bool.and_self, cond_true, len_cast_pos, val_digs, Int.toNat_natCast, Ne, digs_len_zero, impl_natGcd_eq N a b _ (c256 ha) (c256 hb) hN, ← digs1]
 by_cases h3 : b = 0
 ·simp [h3]
 ·rcases hg with hg | hg
  ·simp only [impl_natCmp_eq N _ _ _ hg h1c hN, cmpN_eq]
   by_cases h4 : a = 0
   ·cases f.1 <;> simp [h3, h4]
   ·simp [h3, h4]
  ·exact absurd hg h3
end Go.Proofs.YtnhbcpmmdblkjaaGreatDoorAm
