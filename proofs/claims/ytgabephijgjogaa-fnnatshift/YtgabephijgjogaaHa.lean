/-
  A natural number shifted: the drawn law.
-/
import Derived.Test.YtgabephijgjogaaV
import Derived.Test.YtgabephijgjogaaN
import Derived.Test.YtgabephijgjogaaBa
namespace Go.Proofs.YtgabephijgjogaaAm
open Go
set_option linter.unusedVariables false
set_option linter.unusedSimpArgs false

theorem nb_ge {a : Nat} (h : a ≠ 0) : ∃ k, nbits a = k + 1 ∧ 2 ^ k ≤ a ∧ a < 2 ^ (k + 1) := by
  have hlt := nbits_lt a
  obtain ⟨t0, t1⟩ := digs_top h
  unfold nbits at *
  rw [if_neg h] at *
  obtain ⟨j, e, l1, l2⟩ := blen_spec (a / 65536 ^ ((digs a).length - 1)) (by omega) t0
  refine ⟨16 * ((digs a).length - 1) + j, by rw [e]; omega, ?_, ?_⟩
  · rw [Nat.pow_add, Nat.pow_mul]
    have : (2 : Nat) ^ 16 = 65536 := rfl
    rw [this]
    refine Nat.le_trans (Nat.mul_le_mul_left _ l1) ?_
    rw [Nat.mul_comm]
    exact Nat.div_mul_le_self _ _
  · rw [e] at hlt
    exact hlt
theorem pow_lt_of' {i k : Nat} (h : 2 ^ i < 2 ^ k) : i < k := (Nat.pow_lt_pow_iff_right (by omega)).1 h
theorem nb_gt (a i : Nat) : i < nbits a ↔ 2 ^ i ≤ a := by
  by_cases h : a = 0
  · subst h
    have : 0 < 2 ^ i := Nat.pow_pos (by omega)
    have e : nbits 0 = 0 := by simp [nbits]
    rw [e]
    omega
  · obtain ⟨k, e, l1, l2⟩ := nb_ge h
    rw [e]
    constructor
    · intro h2
      exact Nat.le_trans (Nat.pow_le_pow_right (by omega) (by omega)) l1
    · intro h2
      exact pow_lt_of' (Nat.lt_of_le_of_lt h2 l2)
theorem nb_div (a m : Nat) : nbits (a / 2 ^ m) = nbits a - m := by
  have hp : 0 < 2 ^ m := Nat.pow_pos (by omega)
  have h : ∀ i, i < nbits (a / 2 ^ m) ↔ i + m < nbits a := fun i => by
    rw [nb_gt, nb_gt, Nat.le_div_iff_mul_le hp, Nat.pow_add]
  have h1 := h (nbits (a / 2 ^ m))
  have h2 := h (nbits a - m)
  omega
theorem nb_mul {a : Nat} (ha : a ≠ 0) (m : Nat) : nbits (a * 2 ^ m) = nbits a + m := by
  have hp : 0 < 2 ^ m := Nat.pow_pos (by omega)
  have h := nb_div (a * 2 ^ m) m
  rw [Nat.mul_div_cancel _ hp] at h
  have h1 : m < nbits (a * 2 ^ m) := (nb_gt _ _).2 (Nat.le_mul_of_pos_left _ (Nat.pos_of_ne_zero ha))
  omega
theorem impl_NatBits_eq' {α : Type} (N a : Nat) (k : Int → Option α) (ha : a < 65536 ^ 256) (hN : cap < N) : impl_NatBits N (digs a) k = k ((nbits a : Nat) : Int) := by
  rw [impl_NatBits.eq]
  unfold impl_NatBits.b
  simp only [impl_NatOk_eq N _ _ hN, natOkB_digs ha, Bool.not_true, cond_false, impl_natBits_eq N a _ (cap0_lt (c256 ha)) hN]
theorem two_pow_len {m : Nat} (h : m ≤ 64) : 2 ^ m < 65536 ^ 256 := by
  obtain ⟨E, hE⟩ : ∃ E, E = 256 := ⟨_, rfl⟩
  rw [← hE]
  exact pow2_cap (by omega)
theorem impl_NatPow_two {α : Type} (N m : Nat) (k : Bool → List Int → Option α) (hm : m ≤ 64) (hN : cap < N) : impl_NatPow N [(2 : Int)] (m : Int) k = k true (digs (2 ^ m)) := by
  have h2 : digs 2 = [(2 : Int)] := by
    rw [digs_pos (by omega)]; simp [digs_zero]
  have hc : (2 : Nat) < 65536 ^ 256 := two_pow_len (m := 1) (by omega)
  have hp := two_pow_len hm
  have hl : (digs (2 ^ m)).length ≤ 256 := digs_len_le hp
  rw [impl_NatPow.eq]
  unfold impl_NatPow.b
  have h3 : (m : Int) ≤ 64 := by omega
  obtain ⟨x, e, e1, _⟩ := impl_natPow_eq N 2 m hc hm hN (fun x1423 => impl_told N x1423 true (fun x1424 x1425 => k x1424 x1425))
  rw [h2] at e
  rw [← h2, impl_NatOk_eq N _ _ hN, natOkB_digs hc, h2]
  simp only [Bool.not_true, cond_false, impl_in_eq, Int.natCast_nonneg, h3, decide_true, Bool.and_self, e]
  rw [e1 hl, impl_told_eq N _ _ (cap0_lt (c256 hp)) hN, fits_of hp]
theorem drawNatShift_ok {α : Type} (N : Nat) (x : List Int) (hx : ∀ y ∈ x, 0 ≤ y ∧ y ≤ 255) (hN : cap < N) : ∃ (i : Int) (a : List Int), (∀ (k : Int → List Int → Option α), spec_DrawNatShift N x k = k i a) ∧ a.length ≤ 1000 := by
  obtain ⟨s, e, q⟩ := open32_ok N x hx
  obtain ⟨a, s1, e1, ha, q1⟩ := raw_ok (α := α) N s 0 q (by omega) hN
  obtain ⟨r, s2, e2, q2, _, _⟩ := pick32_ok N 200 s1 (0 + 601) q1 (by omega)
  obtain ⟨t, s3, e3, q3, _, _⟩ := pick32_ok N 4000 s2 (0 + 601 + 1) q2 (by omega)
  obtain ⟨u, s4, e4, q4, u0, u1⟩ := pick32_ok N 12 s3 (0 + 601 + 1 + 1) q3 (by omega)
  obtain ⟨l, hl⟩ : ∃ l, l = [(0 : Int), (1 : Int), (-1 : Int), (16 : Int), (-16 : Int), (17 : Int), IntKind.i64.wrap (r - (100 : Int)), (4096 : Int), (-4096 : Int), (4097 : Int), t, (4611686018427387904 : Int)] := ⟨_, rfl⟩
  have hll : l.length = 12 := by rw [hl]; rfl
  have hu : u.toNat < l.length := by have := u1 (by omega); omega
  have c : ¬ u < 0 := by omega
  refine ⟨l[u.toNat], a, fun k => ?_, by omega⟩
  rw [spec_DrawNatShift.eq]
  unfold spec_DrawNatShift.b
  simp only [e, e1, e2, e3, e4, ← hl, c, decide_false, cond_false, hu, decide_true, cond_true, List.getElem?_eq_getElem hu]
theorem pure_FnNatShift (x0 : List Int) (z0 : wfD (.sl (.int .u8)) x0) : ∃ N, laws_FnNatShift N x0 some = some true := by
  refine ⟨cap + 1, ?_⟩
  have hN : cap < cap + 1 := by omega
  generalize cap + 1 = N at *
  obtain ⟨i, x, e, hx⟩ := drawNatShift_ok (α := Bool) N x0 (bytes_wf z0) hN
  rw [laws_FnNatShift.eq]
  unfold laws_FnNatShift.b
  by_cases h0 : (1048576 : Int) < ((x0.length : Nat) : Int)
  · simp [h0]
  simp only [h0, decide_false, cond_false, e, impl_NatShift_eq N _ _ _ hN, spec_NatShift_eq N _ _ _ hN, beq_self_eq_true, Bool.not_true]
  by_cases h : natOkB x = true ∧ -4096 ≤ i ∧ i ≤ 4096
  · obtain ⟨h1, h2, h3⟩ := h
    obtain ⟨a, ha, rfl⟩ := natOkB_ex h1
    have hs : natShift (digs a) i = fits (shN a i) := by
      unfold natShift
      rw [if_pos ⟨h1, h2, h3⟩, val_digs, Int.toNat_natCast]
    rcases fits_cases (shN a i) with ⟨f1, f2⟩ | f1
    · have hla := digs_len_le ha
      have nb := nbits_le hla
      simp only [hs, f1, Bool.not_true, cond_false, len_cast_zero]
      by_cases hi : i < 0
      · obtain ⟨m, rfl⟩ : ∃ m : Nat, i = -(m : Int) := ⟨i.natAbs, by omega⟩
        have hsh : shN a (-(m : Int)) = a / 2 ^ m := by
          unfold shN
          rw [if_pos hi, show (- -(m : Int)).toNat = m by omega]
        rw [hsh] at f2 ⊢
        simp only [hi, decide_true, cond_true]
        by_cases ha0 : a = 0
        · simp [ha0]
        · have w1 : IntKind.i64.wrap (0 - -(m : Int)) = (m : Int) := by rw [wrap_i64 (by omega) (by omega)]; omega
          have w2 : IntKind.i64.wrap (((nbits a : Nat) : Int) + -(m : Int)) = ((nbits a : Nat) : Int) - m := by rw [wrap_i64 (by omega) (by omega)]; omega
          simp only [ha0, decide_false, cond_false, impl_NatBits_eq' N _ _ ha hN, impl_NatBits_eq' N _ _ f2 hN, nb_div, w1, w2]
          by_cases hz : nbits a ≤ m
          · have c1 : (((nbits a - m : Nat) : Int) = 0) := by omega
            have c2 : ((nbits a : Nat) : Int) ≤ (m : Int) := by omega
            simp only [c1, c2, decide_true, cond_true]
          · have c1 : ¬ (((nbits a : Nat) : Int) - (m : Int) = 0) := by omega
            have c2 : ((nbits a - m : Nat) : Int) = ((nbits a : Nat) : Int) - m := by omega
            simp only [c2, c1, decide_true, decide_false, cond_false]
      · obtain ⟨m, rfl⟩ : ∃ m : Nat, i = (m : Int) := ⟨i.natAbs, by omega⟩
        have hsh : shN a (m : Int) = a * 2 ^ m := by
          unfold shN
          rw [if_neg hi, Int.toNat_natCast]
        have w1 : IntKind.i64.wrap (0 - (m : Int)) = -(m : Int) := by rw [wrap_i64 (by omega) (by omega)]; omega
        rw [hsh] at f2 ⊢
        have hp : 0 < 2 ^ m := Nat.pow_pos (by omega)
        have hb : natShift (digs (a * 2 ^ m)) (-(m : Int)) = (digs a, true) := by
          unfold natShift
          rw [if_pos ⟨natOkB_digs f2, by omega, by omega⟩, val_digs, Int.toNat_natCast]
          have : shN (a * 2 ^ m) (-(m : Int)) = a := by
            unfold shN
            by_cases hm : m = 0
            · subst hm; simp
            · rw [if_pos (by omega), show (- -(m : Int)).toNat = m by omega, Nat.mul_div_cancel _ hp]
          rw [this, fits_of ha]
        have lb := digs_len_le f2
        simp only [hi, decide_false, cond_false, w1, hb, Bool.not_true, laws_pwSame_eq N (digs a) (digs a) _ (show (digs a).length ≤ 1048576 by omega) hN, decide_true, impl_NatBits_eq' N _ _ ha hN, impl_NatBits_eq' N _ _ f2 hN]
        have fin : (bif decide ((64 : Int) < (m : Int)) then some true else impl_NatPow N [(2 : Int)] (m : Int) (fun x1426 x1427 => impl_NatMul N (digs a) x1427 (fun x1455 x1456 => bif x1426 then bif x1455 then laws_pwSame N x1456 (digs (a * 2 ^ m)) (fun x1457 => some x1457) else some false else some false))) = some true := by
          by_cases hm : 64 < m
          · have c : (64 : Int) < (m : Int) := by omega
            simp only [c, decide_true, cond_true]
          · have c : ¬ (64 : Int) < (m : Int) := by omega
            simp only [c, decide_false, cond_false, impl_NatPow_two N m _ (show m ≤ 64 by omega) hN, impl_NatMul_eq N _ _ _ hN, nat2_digs _ ha (two_pow_len (show m ≤ 64 by omega)), fits_of f2, cond_true, laws_pwSame_eq N (digs (a * 2 ^ m)) (digs (a * 2 ^ m)) _ (show (digs (a * 2 ^ m)).length ≤ 1048576 by omega) hN, decide_true]
        by_cases ha0 : a = 0
        · have c0 : ¬ (0 : Int) < (((digs a).length : Nat) : Int) := by rw [ha0, digs_zero]; simp
          simp only [c0, decide_false, cond_false]
          exact fin
        · have c0 : (0 : Int) < (((digs a).length : Nat) : Int) := by have := List.length_pos_iff.2 (digs_ne ha0); omega
          have w2 : IntKind.i64.wrap (((nbits a : Nat) : Int) + (m : Int)) = ((nbits a + m : Nat) : Int) := by rw [wrap_i64 (by omega) (by omega)]; omega
          simp only [c0, decide_true, cond_true, nb_mul ha0, w2, Bool.not_true, cond_false]
          exact fin
    · simp only [hs, f1, Bool.not_false, cond_true]
  · have : natShift x i = ([], false) := by unfold natShift; rw [if_neg h]
    simp only [this, Bool.not_false, cond_true]
end Go.Proofs.YtgabephijgjogaaAm
