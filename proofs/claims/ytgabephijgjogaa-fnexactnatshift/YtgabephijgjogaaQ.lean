/-
  What the program's functions on naturals compute, in plain words: quotients, divisors.
-/
import Derived.Test.YtgabephijgjogaaP
namespace Go.Proofs.YtgabephijgjogaaAm
open Go
set_option linter.unusedVariables false
set_option linter.unusedSimpArgs false

theorem getD_drop (w : List Int) (i m : Nat) : (w.drop i).getD m 0 = w.getD (i + m) 0 := by
  rw [List.getD_eq_getElem?_getD, List.getElem?_drop, ← List.getD_eq_getElem?_getD]
theorem drop_cut {w : List Int} {i n : Nat} (hmid : ∀ p, i ≤ p → p < i + n → 0 ≤ w.getD p 0 ∧ w.getD p 0 < 65536) (hhi : ∀ p, i + n < p → w.getD p 0 = 0) (hl : i + n < w.length) :
    ∃ low, 0 ≤ low ∧ low < 65536 ^ n ∧ val (w.drop i) = low + 65536 ^ n * w.getD (i + n) 0 := by
  have hlen : ((w.drop i).take n).length = n := by rw [List.length_take, List.length_drop]; omega
  have hd : Dig ((w.drop i).take n) := by
    intro x hx
    obtain ⟨m, hm, rfl⟩ := List.mem_iff_getElem.1 hx
    have h1 : m < (w.drop i).length := by rw [List.length_drop]; omega
    have h2 : i + m < w.length := by omega
    rw [List.getElem_take, List.getElem_drop, getD_at h2]
    exact hmid _ (by omega) (by omega)
  have h0 := val_lt hd
  rw [hlen] at h0
  refine ⟨_, val_nonneg hd, h0, ?_⟩
  rw [val_split (w.drop i) n (by rw [List.length_drop]; omega), List.drop_drop, val_drop_succ w (i + n), val_zeros (l := w.drop (i + n + 1)) (fun m => by rw [getD_drop]; exact hhi _ (by omega))]
  simp
theorem dig_of_getD {w : List Int} (h : ∀ p, 0 ≤ w.getD p 0 ∧ w.getD p 0 < 65536) : Dig w := by
  intro x hx
  obtain ⟨m, hm, rfl⟩ := List.mem_iff_getElem.1 hx
  rw [getD_at hm]; exact h m
theorem take_same {u w : List Int} {i : Nat} (hl : w.length = u.length) (h : ∀ p, p < i → w.getD p 0 = u.getD p 0) : w.take i = u.take i := by
  apply List.ext_getElem
  · rw [List.length_take, List.length_take, hl]
  · intro p h1 h2
    rw [List.length_take] at h1 h2
    rw [List.getElem_take, List.getElem_take, getD_at (by omega), getD_at (by omega)]
    exact h p (by omega)
theorem drop_diff {u w : List Int} {i : Nat} {c : Int} (hi : i ≤ u.length) (hl : w.length = u.length) (h : ∀ p, p < i → w.getD p 0 = u.getD p 0) (hv : val w = val u - c * 65536 ^ i) : val (w.drop i) = val (u.drop i) - c := by
  have h1 := val_split w i (by omega)
  have h2 := val_split u i hi
  rw [take_same hl h] at h1
  have h3 : 65536 ^ i * val (w.drop i) = 65536 ^ i * (val (u.drop i) - c) := by grind
  exact Int.eq_of_mul_eq_mul_left (by have := ipow_pos i; omega) h3
theorem knuth_digits {D U L : Nat} (hL : (digs D).length = L + 2) (hD : 0 < D) (hU1 : U < D * 65536) :
    ∃ v1 v2 X u2 m : Nat, D / 65536 ^ (L + 1) % 65536 = v1 ∧ D / 65536 ^ L % 65536 = v2 ∧ U / 65536 ^ (L + 2) % 65536 = X / 65536 ∧ U / 65536 ^ (L + 1) % 65536 = X % 65536 ∧ U / 65536 ^ L % 65536 = u2 ∧ (∀ p, L + 2 < p → U / 65536 ^ p = 0) ∧ 1 ≤ v1 ∧ v1 < 65536 ∧ v2 < 65536 ∧ u2 < 65536 ∧ X < (v1 + 1) * 65536 ∧ min 65535 ((X * 65536 + u2) / (v1 * 65536 + v2)) = m ∧ U / D ≤ m ∧ m ≤ U / D + 1 ∧ m ≤ X / v1 := by
  have hDlt := lt_digs_len D
  rw [hL] at hDlt
  have hP : 0 < 65536 ^ L := Nat.pow_pos (by omega)
  have hp1 : 65536 ^ (L + 1) = 65536 ^ L * 65536 := Nat.pow_succ ..
  have hp2 : 65536 ^ (L + 2) = 65536 ^ L * 65536 * 65536 := by rw [Nat.pow_succ, Nat.pow_succ]
  have hDge := digs_len_ge (show D ≠ 0 by omega)
  rw [hL, show L + 2 - 1 = L + 1 by omega, hp1] at hDge
  have hz : ∀ p, L + 2 < p → U / 65536 ^ p = 0 := fun p hp => by
    refine Nat.div_eq_of_lt (Nat.lt_of_lt_of_le hU1 ?_)
    have h3 : D * 65536 ≤ 65536 ^ (L + 3) := by rw [Nat.pow_succ]; exact Nat.mul_le_mul_right _ (Nat.le_of_lt hDlt)
    exact Nat.le_trans h3 (Nat.pow_le_pow_right (by omega) (by omega))
  rw [hp2] at hDlt
  obtain ⟨W, hW⟩ : ∃ W, W = D / 65536 ^ L := ⟨_, rfl⟩
  obtain ⟨Y, hY⟩ : ∃ Y, Y = U / 65536 ^ L := ⟨_, rfl⟩
  have hW1 : W < 65536 * 65536 := by rw [hW, Nat.div_lt_iff_lt_mul hP]; rw [Nat.mul_comm, ← Nat.mul_assoc]; exact hDlt
  have hW2 : 65536 ≤ W := by rw [hW, Nat.le_div_iff_mul_le hP, Nat.mul_comm]; exact hDge
  have hYW : Y < (W + 1) * 65536 := by
    rw [hY, Nat.div_lt_iff_lt_mul hP]
    have h1 : D < (W + 1) * 65536 ^ L := by
      have := Nat.lt_mul_div_succ D hP
      rw [← hW, Nat.mul_comm] at this; exact this
    have h2 : D * 65536 ≤ (W + 1) * 65536 ^ L * 65536 := Nat.mul_le_mul_right _ (Nat.le_of_lt h1)
    rw [Nat.mul_assoc, Nat.mul_comm 65536 (65536 ^ L), ← Nat.mul_assoc]
    exact Nat.lt_of_lt_of_le hU1 h2
  obtain ⟨kn1, kn2⟩ := knuth (Y := Y) (W := W) hP hU1 hW hY hW2
  rw [hp1, hp2, ← Nat.div_div_eq_div_mul, ← Nat.div_div_eq_div_mul, ← Nat.div_div_eq_div_mul, ← hW, ← hY]
  clear hp1 hp2 hDlt hDge hU1 hL hW hY hP
  have eW : W = W / 65536 * 65536 + W % 65536 := by omega
  have eY : Y = Y / 65536 * 65536 + Y % 65536 := by omega
  refine ⟨W / 65536, W % 65536, Y / 65536, Y % 65536, min 65535 (Y / W), Nat.mod_eq_of_lt (by omega), rfl, Nat.mod_eq_of_lt (by omega), rfl, rfl, hz, by omega, by omega, by omega, by omega, by omega, by rw [← eW, ← eY], kn1, kn2, ?_⟩
  refine Nat.le_trans (Nat.min_le_right _ _) ?_
  rw [Nat.le_div_iff_mul_le (by omega)]
  have h1 : Y / W * W ≤ Y := Nat.div_mul_le_self Y W
  generalize Y / W = Q at *
  have h2 : Q * W = Q * (W / 65536) * 65536 + Q * (W % 65536) := by
    rw [Nat.mul_assoc, ← Nat.mul_add, ← eW]
  omega
theorem blen_16 {n : Nat} (h : n < 65536) : blen n ≤ 16 := by
  have h1 : blenF 64 n = blenF 16 n := blenF_more 16 n (by omega) 64 (by omega)
  have h2 : ∀ f n, blenF f n ≤ f := by
    intro f
    induction f with
    | zero => intro n; simp [blenF]
    | succ f ih =>
      intro n
      unfold blenF
      split
      · omega
      · have := ih (n / 2); omega
  unfold blen
  rw [h1]; exact h2 16 n
theorem len_cap0 {n : Nat} (h : n < cap0) : (digs n).length ≤ 2900 := by
  have := digs_len_le (m := capE0) (by rwa [← cap0_eq])
  rwa [capE0_eq] at this
end Go.Proofs.YtgabephijgjogaaAm
