/-
  What the program's functions on naturals compute, in plain words: quotients, divisors.
-/
import Derived.Test.YtnhbcpmmdblkjaaGreatDoorP
namespace Go.Proofs.YtnhbcpmmdblkjaaGreatDoorAm
open Go
set_option linter.unusedVariables false
set_option linter.unusedSimpArgs false

theorem getD_drop (w : List Int) (i m : Nat) : (w.drop i).getD m 0 = w.getD (i + m) 0 := by
 rw [List.getD_eq_getElem?_getD, List.getElem?_drop, ← List.getD_eq_getElem?_getD]
theorem drop_cut {w : List Int} {i n : Nat} (hmid : ∀ p, i ≤ p → p < i + n → 0 ≤ w.getD p 0 ∧ w.getD p 0 < 65536) (hhi : ∀ p, i + n < p → w.getD p 0 = 0) (hl : i + n < w.length) :
  ∃ low, 0 ≤ low ∧ low < 65536 ^ n ∧ val (w.drop i) = low + 65536 ^ n * w.getD (i + n) 0 := by
 have hlen : ((w.drop i).take n).length = n := by rw [List.length_take, List.length_drop]; omega
 have hd : Dig ((w.drop i).take n) := by
  intro x hx
  obtain ⟨m, hm, rfl⟩ := List.mem_iff_getElem.1 hx
  have h1 : m < (w.drop i).length := by rw [List.length_drop]; omega
  have h2 : i + m < w.length := by omega
  rw [List.getElem_take, List.getElem_drop, getD_at h2]
  exact hmid _ (by omega) (by omega)
 have h0 := val_lt hd
 rw [hlen] at h0
 refine ⟨_, val_nonneg hd, h0, ?_⟩
 rw [val_split (w.drop i) n (by rw [List.length_drop]; omega), List.drop_drop, val_drop_succ w (i + n), val_zeros (l := w.drop (i + n + 1)) (fun m => by rw [getD_drop]; exact hhi _ (by omega))]
 simp
theorem dig_of_getD {w : List Int} (h : ∀ p, 0 ≤ w.getD p 0 ∧ w.getD p 0 < 65536) : Dig w := by
 intro x hx
 obtain ⟨m, hm, rfl⟩ := List.mem_iff_getElem.1 hx
 rw [getD_at hm]; exact h m
theorem take_same {u w : List Int} {i : Nat} (hl : w.length = u.length) (h : ∀ p, p < i → w.getD p 0 = u.getD p 0) : w.take i = u.take i := by
 apply List.ext_getElem
 ·rw [List.length_take, List.length_take, hl]
 ·intro p h1 h2
  rw [List.length_take] at h1 h2
  rw [List.getElem_take, List.getElem_take, getD_at (by omega), getD_at (by omega)]
  exact h p (by omega)
theorem drop_diff {u w : List Int} {i : Nat} {c : Int} (hi : i ≤ u.length) (hl : w.length = u.length) (h : ∀ p, p < i → w.getD p 0 = u.getD p 0) (hv : val w = val u - c * 65536 ^ i) : val (w.drop i) = val (u.drop i) - c := by
 have h1 := val_split w i (by omega)
 have h2 := val_split u i hi
 rw [take_same hl h] at h1
 have h3 : 65536 ^ i * val (w.drop i) = 65536 ^ i * (val (u.drop i) - c) := by grind
 exact Int.eq_of_mul_eq_mul_left (by have := ipow_pos i; omega) h3
theorem impl_natDiv_fix {α : Type} (N : Nat) (s : Int) (D i m U : Nat) (q u : List Int) (hN : (digs D).length < N) (hD : 0 < D) (hlen : (digs D).length ≤ 3000) (hi : i < 100000) (hl : i + (digs D).length < u.length) (hlow : ∀ p, p < i + (digs D).length → 0 ≤ u.getD p 0 ∧ u.getD p 0 < 65536) (hhi : ∀ p, i + (digs D).length < p → u.getD p 0 = 0)
  (ht : -65536 ≤ u.getD (i + (digs D).length) 0 ∧ u.getD (i + (digs D).length) 0 < 65536) (hm : m < 65536) (hm1 : U / D ≤ m) (hm2 : m ≤ U / D + 1) (hv : val (u.drop i) = (U : Int) - m * D) :
  ∃ u', (∀ k : Int → List Int → Int → Int → Int → List Int → List Int → Option α, impl_natDiv_J40 N s (digs D) ((digs D).length : Int) (i : Int) (m : Int) u q k = k s (digs D) ((digs D).length : Int) (i : Int) ((U / D : Nat) : Int) u' q) ∧ u'.length = u.length ∧ Dig u' ∧ (∀ p, p < i → u'.getD p 0 = u.getD p 0) ∧ val (u'.drop i) = ((U % D : Nat) : Int) := by
 have hdm := Nat.div_add_mod U D
 have hml := Nat.mod_lt U hD
 have hDlt := lt_digs_len D
 generalize hn : (digs D).length = n at *
 have hip := ipow_cast n
 have hDlt' : (D : Int) < 65536 ^ n := by omega
 have w0 : IntKind.i64.wrap ((i : Int) + (n : Int)) = ((i + n : Nat) : Int) := wrap_add (by omega)
 obtain ⟨low, l0, l1, l2⟩ := drop_cut (fun p h1 h2 => hlow p h2) hhi hl
 rw [hv] at l2
 obtain ⟨t, htd⟩ : ∃ t, u.getD (i + n) 0 = t := ⟨_, rfl⟩
 have htu : u[i + n] = t := by rw [getD_at hl, htd]
 rw [htd] at l2 ht
 have hpp := ipow_pos n
 generalize hQ : U / D = Q at *
 generalize hR : U % D = R at *
 have hmD : (U : Int) = (D : Int) * Q + R := by rw [← hdm, Int.natCast_add, Int.natCast_mul]
 by_cases hneg : t < 0
 ·
  have h1 : 65536 ^ n * t ≤ 65536 ^ n * (-1) := Int.mul_le_mul_of_nonneg_left (by omega) (by omega)
  have h2 : m = Q + 1 := by
   rcases (show m = Q ∨ m = Q + 1 by omega) with h3 | h3
   ·rw [h3] at l2; exfalso; grind
   ·exact h3
  have w1 : IntKind.i64.wrap ((m : Int) - 1) = (Q : Int) := by rw [wrap_i64 (by omega) (by omega)]; omega
  obtain ⟨c, u1, e, e1, e2, e3, e4, e5, e6, e7⟩ := impl_natDiv_back (α := α) N s (digs D) (dig_digs D) i hi (by omega) (Q : Int) q (digs D).length 0 N (by omega) (by omega) 0 u (by omega) (by omega) (by rw [hn]; exact hlow) (by rw [hn]; exact hl)
  rw [show ((0 : Nat) : Int) = 0 from rfl] at e
  rw [hn] at e e3 e5 e7
  simp only [Int.zero_mul, Nat.add_zero, Int.add_zero, List.drop_zero, val_digs] at e7
  have hl1 : i + n < u1.length := by omega
  have hu1 : u1[i + n] = t := by rw [getD_at hl1, e5 _ (Nat.le_refl _), htd]
  have w2 : IntKind.i64.wrap (t + c) = t + c := wrap_i64 (by omega) (by omega)
  have hget : ∀ p, (u1.set (i + n) (t + c)).getD p 0 = if p = i + n then t + c else u1.getD p 0 := by
   intro p
   by_cases hp : p = i + n
   ·subst hp; rw [getD_set_eq hl1, if_pos rfl]
   ·rw [getD_set_ne (by omega), if_neg hp]
  have hval : val (u1.set (i + n) (t + c)) = val u - (-(D : Int)) * 65536 ^ i := by
   rw [val_set _ _ _ hl1, ← getD_at hl1, hu1]; grind
  have hlow2 : ∀ p, p < i → (u1.set (i + n) (t + c)).getD p 0 = u.getD p 0 := fun p hp => by
   rw [hget, if_neg (by omega), e6 p (by omega)]
  have hdrop := drop_diff (by omega) (by rw [set_len, e4]) hlow2 hval
  rw [hv, h2] at hdrop
  have hfin : val ((u1.set (i + n) (t + c)).drop i) = (R : Int) := by rw [hdrop, Int.natCast_add]; grind
  have hmid2 : ∀ p, i ≤ p → p < i + n → 0 ≤ (u1.set (i + n) (t + c)).getD p 0 ∧ (u1.set (i + n) (t + c)).getD p 0 < 65536 := fun p _ hp => by
   rw [hget, if_neg (by omega)]; exact e3 p hp
  have hhi2 : ∀ p, i + n < p → (u1.set (i + n) (t + c)).getD p 0 = 0 := fun p hp => by
   rw [hget, if_neg (by omega), e5 p (by omega)]; exact hhi p hp
  obtain ⟨low2, k0, k1, k2⟩ := drop_cut hmid2 hhi2 (by rw [set_len]; exact hl1)
  rw [hget, if_pos rfl, hfin] at k2
  have htop : t + c = 0 := by
   rcases Int.lt_trichotomy (t + c) 0 with h3 | h3 | h3
   ·have : 65536 ^ n * (t + c) ≤ 65536 ^ n * (-1) := Int.mul_le_mul_of_nonneg_left (by omega) (by omega)
    omega
   ·exact h3
   ·have : 65536 ^ n * 1 ≤ 65536 ^ n * (t + c) := Int.mul_le_mul_of_nonneg_left (by omega) (by omega)
    omega
  refine ⟨u1.set (i + n) (t + c), fun k => ?_, by rw [set_len, e4], ?_, hlow2, hfin⟩
  ·rw [impl_natDiv_J40.eq]
   unfold impl_natDiv_J40.b
   simp only [w0, cast_neg, cond_true, cond_false, Int.toNat_natCast, decide_eq_true hl, List.getElem?_eq_getElem hl, htu, hneg, decide_true, w1, hn, e, decide_eq_true hl1, List.getElem?_eq_getElem hl1, hu1, w2]
  ·refine dig_of_getD fun p => ?_
   rw [hget]
   split
   ·omega
   ·by_cases hp : p < i + n
    ·exact e3 p hp
    ·rw [e5 p (by omega), hhi p (by omega)]; omega
 ·have h2 : m = Q := by
   have h3 : 0 ≤ 65536 ^ n * t := Int.mul_nonneg (by omega) (by omega)
   rcases (show m = Q ∨ m = Q + 1 by omega) with h4 | h4
   ·exact h4
   ·rw [h4, Int.natCast_add] at l2; exfalso; grind
  subst h2
  have hfin : val (u.drop i) = (R : Int) := by rw [hv]; grind
  have htop : t = 0 := by
   by_cases h3 : 0 < t
   ·have : 65536 ^ n * 1 ≤ 65536 ^ n * t := Int.mul_le_mul_of_nonneg_left (by omega) (by omega)
    rw [hv] at hfin; rw [l2] at hfin; omega
   ·omega
  refine ⟨u, fun k => ?_, rfl, ?_, fun _ _ => rfl, hfin⟩
  ·rw [impl_natDiv_J40.eq]
   unfold impl_natDiv_J40.b
   simp only [w0, cast_neg, cond_true, cond_false, Int.toNat_natCast, decide_eq_true hl, List.getElem?_eq_getElem hl, htu, hneg, decide_false]
  ·refine dig_of_getD fun p => ?_
   by_cases hp : p < i + n
   ·exact hlow p hp
   ·by_cases hp2 : p = i + n
    ·rw [hp2, htd]; omega
    ·rw [hhi p (by omega)]; omega
theorem impl_natDiv_digit {α : Type} (N : Nat) (s : Int) (D L i U : Nat) (u q : List Int) (v1 v2 X u2 m : Nat) (hL : (digs D).length = L + 2) (hL2 : L < 2998) (hi : i < 90000) (hD : 0 < D) (hN : 100000 < N) (hu : Dig u) (hul : i + (L + 2) < u.length) (hU : val (u.drop i) = (U : Int))
    (d1 : (digs D).getD (L + 1) 0 = (v1 : Int)) (d2 : (digs D).getD L 0 = (v2 : Int)) (d3 : u.getD (i + (L + 2)) 0 = ((X / 65536 : Nat) : Int)) (d5 : u.getD (i + L) 0 = (u2 : Int)) (hz : ∀ p, i + (L + 2) < p → u.getD p 0 = 0)
    (b1 : 1 ≤ v1) (b2 : v1 < 65536) (b3 : v2 < 65536) (b4 : u2 < 65536) (hX : X < (v1 + 1) * 65536) (hm : min 65535 ((X * 65536 + u2) / (v1 * 65536 + v2)) = m) (hm1 : U / D ≤ m) (hm2 : m ≤ U / D + 1) (hm3 : m ≤ X / v1) :
    ∃ b ua t u', (∀ k : Int → List Int → Int → Int → Int → List Int → List Int → Option α, impl_natDiv_L6 N N s (digs D) ((L + 2 : Nat) : Int) (i : Int) ((X / v1 : Nat) : Int) ((X % v1 : Nat) : Int) u q k = k s (digs D) ((L + 2 : Nat) : Int) (i : Int) (m : Int) u q) ∧
      (∀ k : Int → List Int → Int → Int → Int → Int → List Int → List Int → Option α, impl_natDiv_L8 N N s (digs D) ((L + 2 : Nat) : Int) (i : Int) (m : Int) 0 (digs D) ((L + 2 : Nat) : Int) 0 u q k = k s (digs D) ((L + 2 : Nat) : Int) (i : Int) (m : Int) b ua q) ∧ ua.length = u.length ∧ ua.getD (i + (L + 2)) 0 = ((X / 65536 : Nat) : Int) ∧ IntKind.i64.wrap (((X / 65536 : Nat) : Int) - b) = t ∧
      (∀ k : Int → List Int → Int → Int → Int → List Int → List Int → Option α, impl_natDiv_J40 N s (digs D) ((L + 2 : Nat) : Int) (i : Int) (m : Int) (ua.set (i + (L + 2)) t) q k = k s (digs D) ((L + 2 : Nat) : Int) (i : Int) ((U / D : Nat) : Int) u' q) ∧ u'.length = u.length ∧ Dig u' ∧ (∀ p, p < i → u'.getD p 0 = u.getD p 0) ∧ val (u'.drop i) = ((U % D : Nat) : Int) := by
  have hml : m < 65536 := by omega
  have guess := impl_natDiv_guess (α := α) N s (digs D) (L + 2) i u q v1 v2 u2 X (by omega) (by omega) (by omega) hL (by omega) d1 d2 d5 b1 b2 b3 b4 hX (by omega) N (X / v1) (X % v1) (by omega) (by have := Nat.mod_lt X (show v1 > 0 by omega); omega) (by rw [Nat.mul_comm]; exact (Nat.div_add_mod X v1).symm) (by rw [hm]; exact hm3)
  rw [hm] at guess
  obtain ⟨b, ua, f1, f2, f3, f4, f5, f6, f7, f8⟩ := impl_natDiv_sub (α := α) N s (digs D) (dig_digs D) i (by omega) (by omega) (m : Int) (by omega) (by omega) q (digs D).length 0 N (by omega) (by omega) 0 u (by omega) (by omega) hu (by omega)
  rw [show ((0 : Nat) : Int) = 0 from rfl, hL] at f1
  rw [hL] at f6 f8
  simp only [Int.zero_mul, Nat.add_zero, Int.sub_zero, List.drop_zero, val_digs] at f8
  have ga : i + (L + 2) < ua.length := by omega
  have ra : ua.getD (i + (L + 2)) 0 = ((X / 65536 : Nat) : Int) := by rw [f6 _ (Nat.le_refl _), d3]
  have hX3 : X / 65536 < 65536 := by
    have := dig_getD hu (i + (L + 2)); rw [d3] at this; omega
  have w5 : IntKind.i64.wrap (((X / 65536 : Nat) : Int) - b) = ((X / 65536 : Nat) : Int) - b := wrap_i64 (by omega) (by omega)
  obtain ⟨t, htd⟩ : ∃ t, ((X / 65536 : Nat) : Int) - b = t := ⟨_, rfl⟩
  have hget : ∀ p, (ua.set (i + (L + 2)) t).getD p 0 = if p = i + (L + 2) then t else ua.getD p 0 := by
    intro p
    by_cases hp : p = i + (L + 2)
    · subst hp; rw [getD_set_eq ga, if_pos rfl]
    · rw [getD_set_ne (by omega), if_neg hp]
  have hua := fun p => dig_getD f4 p
  have hval : val (ua.set (i + (L + 2)) t) = val u - ((m : Int) * D) * 65536 ^ i := by
    rw [val_set _ _ _ ga, ra, ← htd]; grind
  have hlow : ∀ p, p < i → (ua.set (i + (L + 2)) t).getD p 0 = u.getD p 0 := fun p hp => by
    rw [hget, if_neg (by omega), f7 p (by omega)]
  have hdrop := drop_diff (by omega) (by rw [set_len, f5]) hlow hval
  rw [hU] at hdrop
  obtain ⟨u', k1, k2, k3, k4, k5⟩ := impl_natDiv_fix (α := α) N s D i m U q (ua.set (i + (L + 2)) t) (by omega) hD (by omega) (by omega) (by rw [set_len, hL]; exact ga) (fun p hp => by
    rw [hL] at hp; rw [hget, if_neg (by omega)]; exact hua p) (fun p hp => by
    rw [hL] at hp; rw [hget, if_neg (by omega), f6 p (by omega)]; exact hz p hp) (by rw [hL, hget, if_pos rfl]; omega) hml hm1 hm2 hdrop
  rw [hL] at k1
  exact ⟨b, ua, t, u', guess, f1, f5, ra, by rw [w5, htd], k1, by rw [k2, set_len, f5], k3, fun p hp => by rw [k4 p hp, hlow p hp], k5⟩
theorem knuth_digits {D U L : Nat} (hL : (digs D).length = L + 2) (hD : 0 < D) (hU1 : U < D * 65536) :
  ∃ v1 v2 X u2 m : Nat, D / 65536 ^ (L + 1) % 65536 = v1 ∧ D / 65536 ^ L % 65536 = v2 ∧ U / 65536 ^ (L + 2) % 65536 = X / 65536 ∧ U / 65536 ^ (L + 1) % 65536 = X % 65536 ∧ U / 65536 ^ L % 65536 = u2 ∧ (∀ p, L + 2 < p → U / 65536 ^ p = 0) ∧ 1 ≤ v1 ∧ v1 < 65536 ∧ v2 < 65536 ∧ u2 < 65536 ∧ X < (v1 + 1) * 65536 ∧ min 65535 ((X * 65536 + u2) / (v1 * 65536 + v2)) = m ∧ U / D ≤ m ∧ m ≤ U / D + 1 ∧ m ≤ X / v1 := by
 have hDlt := lt_digs_len D
 rw [hL] at hDlt
 have hP : 0 < 65536 ^ L := Nat.pow_pos (by omega)
 have hp1 : 65536 ^ (L + 1) = 65536 ^ L * 65536 := Nat.pow_succ ..
 have hp2 : 65536 ^ (L + 2) = 65536 ^ L * 65536 * 65536 := by rw [Nat.pow_succ, Nat.pow_succ]
 have hDge := digs_len_ge (show D ≠ 0 by omega)
 rw [hL, show L + 2 - 1 = L + 1 by omega, hp1] at hDge
 have hz : ∀ p, L + 2 < p → U / 65536 ^ p = 0 := fun p hp => by
  refine Nat.div_eq_of_lt (Nat.lt_of_lt_of_le hU1 ?_)
  have h3 : D * 65536 ≤ 65536 ^ (L + 3) := by rw [Nat.pow_succ]; exact Nat.mul_le_mul_right _ (Nat.le_of_lt hDlt)
  exact Nat.le_trans h3 (Nat.pow_le_pow_right (by omega) (by omega))
 rw [hp2] at hDlt
 obtain ⟨W, hW⟩ : ∃ W, W = D / 65536 ^ L := ⟨_, rfl⟩
 obtain ⟨Y, hY⟩ : ∃ Y, Y = U / 65536 ^ L := ⟨_, rfl⟩
 have hW1 : W < 65536 * 65536 := by rw [hW, Nat.div_lt_iff_lt_mul hP]; rw [Nat.mul_comm, ← Nat.mul_assoc]; exact hDlt
 have hW2 : 65536 ≤ W := by rw [hW, Nat.le_div_iff_mul_le hP, Nat.mul_comm]; exact hDge
 have hYW : Y < (W + 1) * 65536 := by
  rw [hY, Nat.div_lt_iff_lt_mul hP]
  have h1 : D < (W + 1) * 65536 ^ L := by
   have := Nat.lt_mul_div_succ D hP
   rw [← hW, Nat.mul_comm] at this; exact this
  have h2 : D * 65536 ≤ (W + 1) * 65536 ^ L * 65536 := Nat.mul_le_mul_right _ (Nat.le_of_lt h1)
  rw [Nat.mul_assoc, Nat.mul_comm 65536 (65536 ^ L), ← Nat.mul_assoc]
  exact Nat.lt_of_lt_of_le hU1 h2
 obtain ⟨kn1, kn2⟩ := knuth (Y := Y) (W := W) hP hU1 hW hY hW2
 rw [hp1, hp2, ← Nat.div_div_eq_div_mul, ← Nat.div_div_eq_div_mul, ← Nat.div_div_eq_div_mul, ← hW, ← hY]
 clear hp1 hp2 hDlt hDge hU1 hL hW hY hP
 have eW : W = W / 65536 * 65536 + W % 65536 := by omega
 have eY : Y = Y / 65536 * 65536 + Y % 65536 := by omega
 refine ⟨W / 65536, W % 65536, Y / 65536, Y % 65536, min 65535 (Y / W), Nat.mod_eq_of_lt (by omega), rfl, Nat.mod_eq_of_lt (by omega), rfl, rfl, hz, by omega, by omega, by omega, by omega, by omega, by rw [← eW, ← eY], kn1, kn2, ?_⟩
 refine Nat.le_trans (Nat.min_le_right _ _) ?_
 rw [Nat.le_div_iff_mul_le (by omega)]
 have h1 : Y / W * W ≤ Y := Nat.div_mul_le_self Y W
 generalize Y / W = Q at *
 have h2 : Q * W = Q * (W / 65536) * 65536 + Q * (W % 65536) := by
  rw [Nat.mul_assoc, ← Nat.mul_add, ← eW]
 omega
theorem impl_natDiv_small {α : Type} (N : Nat) (l : List Int) (hd : Dig l) (hb : l.length < 4611686018427387904) (d : Nat) (d0 : 0 < d) (d1 : d < 65536) (k : Int → List Int → Option α) : ∀ (i n : Nat), i ≤ l.length → i < n →
    ∀ (r : Nat) (q : List Int), r < d → Dig q → q.length + i = l.length → val (l.drop i) = val q * d + r →
    ∃ (r' : Nat) (q' : List Int), impl_natDiv_L0 N n l [(d : Int)] (r : Int) ((i : Int) - 1) (List.replicate i 0 ++ q) k = k r' q' ∧ r' < d ∧ Dig q' ∧ q'.length = l.length ∧ val l = val q' * d + r' := by
  intro i
  induction i with
  | zero =>
    intro n h hn r q r1 hq hl hv
    obtain ⟨m, rfl⟩ : ∃ m, n = m + 1 := ⟨n - 1, by omega⟩
    refine ⟨r, q, ?_, r1, hq, by omega, by simpa using hv⟩
    rw [impl_natDiv_L0.succ]
    unfold impl_natDiv_L0r
    simp
  | succ i ih =>
    intro n h hn r q r1 hq hl hv
    obtain ⟨m, rfl⟩ : ∃ m, n = m + 1 := ⟨n - 1, by omega⟩
    have hi : i < l.length := by omega
    have hi2 : i < (List.replicate (i + 1) (0 : Int) ++ q).length := by simp; omega
    have e : ((i + 1 : Nat) : Int) - 1 = (i : Int) := by omega
    have e2 : IntKind.i64.wrap ((i : Int) - 1) = (i : Int) - 1 := wrap_i64 (by omega) (by omega)
    have hx := dig_at hd hi
    obtain ⟨x, hxd⟩ : ∃ x : Nat, l[i] = (x : Int) := ⟨l[i].toNat, by omega⟩
    have t0 : shlI .i64 (r : Int) (16 : Int) = ((r * 65536 : Nat) : Int) := shl_i (k := 16) (by omega) (by omega)
    have t00 : bitI .or .i64 ((r * 65536 : Nat) : Int) (x : Int) = ((r * 65536 + x : Nat) : Int) := by
      rw [bitI_or (by omega) (by omega)]
      have := or_add (u := x) (v := r) (r := 16) (by omega)
      rw [show (2 : Nat) ^ 16 = 65536 by decide] at this
      rw [this]
    obtain ⟨y, hy⟩ : ∃ y, r * 65536 + x = y := ⟨_, rfl⟩
    rw [hy] at t00
    have t1 : Int.tdiv (y : Int) (d : Int) = ((y / d : Nat) : Int) := by rw [Int.tdiv_eq_ediv_of_nonneg (by omega)]; rfl
    have t2 : Int.tmod (y : Int) (d : Int) = ((y % d : Nat) : Int) := by rw [Int.tmod_eq_emod_of_nonneg (by omega)]; rfl
    have q1 : y / d < 65536 := (Nat.div_lt_iff_lt_mul d0).2 (by omega)
    have hm := Nat.mod_lt y d0
    have hdm := Nat.div_add_mod y d
    have hyd : (y : Int) = d * ((y / d : Nat) : Int) + ((y % d : Nat) : Int) := by rw [← Int.natCast_mul, ← Int.natCast_add, hdm]
    generalize y / d = Q at *
    generalize y % d = R at *
    have w3 : IntKind.i64.wrap (Q : Int) = (Q : Int) := wrapn (by omega)
    have hd0 : ¬ (d : Int) = 0 := by omega
    obtain ⟨r', q', z1, z2⟩ := ih m (by omega) (by omega) R ((Q : Int) :: q) hm (dig_cons.2 ⟨by omega, hq⟩) (by simp; omega) (by
      rw [val_drop_succ, hv, ← getD_at hi, hxd, val]
      have : (r : Int) * 65536 + x = y := by omega
      grind)
    refine ⟨r', q', ?_, z2⟩
    rw [impl_natDiv_L0.succ, e]
    unfold impl_natDiv_L0r
    simp only [cast_nn, cast_neg, cond_true, cond_false, Int.toNat_natCast, t0, List.getElem?_eq_getElem hi, hxd, t00, List.getElem?_cons_zero, hd0, decide_false, t1, w3, t2, decide_eq_true hi2, List.getElem?_eq_getElem hi2, rep_set, e2]
    exact z1
theorem blen_16 {n : Nat} (h : n < 65536) : blen n ≤ 16 := by
  have h1 : blenF 64 n = blenF 16 n := blenF_more 16 n (by omega) 64 (by omega)
  have h2 : ∀ f n, blenF f n ≤ f := by
    intro f
    induction f with
    | zero => intro n; simp [blenF]
    | succ f ih =>
      intro n
      unfold blenF
      split
      · omega
      · have := ih (n / 2); omega
  unfold blen
  rw [h1]; exact h2 16 n
theorem len_cap0 {n : Nat} (h : n < cap0) : (digs n).length ≤ 2900 := by
 have := digs_len_le (m := capE0) (by rwa [← cap0_eq])
 rwa [capE0_eq] at this
theorem impl_natDiv_loop {α : Type} (N : Nat) (s : Int) (D A L : Nat) (hL : (digs D).length = L + 2) (hL2 : L < 2998) (hD : 0 < D) (hN : 100000 < N) (M : Nat) (hM : M ≤ 3100) (k : Int → List Int → List Int → Option α) : ∀ (i f : Nat), i ≤ M → i < f → ∀ (u q : List Int), Dig u → u.length = L + 2 + M → Dig q → q.length + i = M → val (u.drop i) < D → val u + 65536 ^ i * val q * D = A →
    ∃ u' q', impl_natDiv_L4 N f s (digs D) ((L + 2 : Nat) : Int) ((i : Int) - 1) u (List.replicate i 0 ++ q) k = k s u' q' ∧ Dig u' ∧ u'.length = L + 2 + M ∧ Dig q' ∧ q'.length = M ∧ val u' = ((A % D : Nat) : Int) ∧ val q' = ((A / D : Nat) : Int) := by
  intro i
  induction i with
  | zero =>
    intro f h hf u q hu hul hq hql hr hv
    obtain ⟨f, rfl⟩ : ∃ m, f = m + 1 := ⟨f - 1, by omega⟩
    obtain ⟨u1, u2⟩ := div_uniq (A := A) (D := D) (q := val q) (r := val u) rfl rfl (by grind) (val_nonneg hu) (by simpa using hr)
    refine ⟨u, q, ?_, hu, hul, hq, by omega, u2, u1⟩
    rw [impl_natDiv_L4.succ]
    unfold impl_natDiv_L4r
    simp
  | succ i ih =>
    intro f h hf u q hu hul hq hql hr hv
    obtain ⟨f, rfl⟩ : ∃ m, f = m + 1 := ⟨f - 1, by omega⟩
    have e : ((i + 1 : Nat) : Int) - 1 = (i : Int) := by omega
    have e2 : IntKind.i64.wrap ((i : Int) - 1) = (i : Int) - 1 := wrap_i64 (by omega) (by omega)
    have hud : Dig (u.drop i) := dig_drop hu i
    obtain ⟨U, hU⟩ : ∃ U : Nat, val (u.drop i) = (U : Int) := ⟨(val (u.drop i)).toNat, by have := val_nonneg hud; omega⟩
    have hU1 : U < D * 65536 := by
      have hx := dig_getD hu i
      have := val_drop_succ u i
      rw [hU] at this; omega
    have hdig : ∀ m, u.getD (i + m) 0 = ((U / 65536 ^ m % 65536 : Nat) : Int) := fun m => by rw [← getD_drop]; exact dig_digit m hud hU
    obtain ⟨v1, v2, X, u2, m, n1, n2, n3, n4, n5, n6, b1, b2, b3, b4, hX, hm, hm1, hm2, hm3⟩ := knuth_digits hL hD hU1
    have d1 : (digs D).getD (L + 1) 0 = (v1 : Int) := by rw [getD_digs, n1]
    have d2 : (digs D).getD L 0 = (v2 : Int) := by rw [getD_digs, n2]
    have d3 := hdig (L + 2)
    have d4 := hdig (L + 1)
    have d5 := hdig L
    rw [n3] at d3; rw [n4] at d4; rw [n5] at d5
    have hz : ∀ p, i + (L + 2) < p → u.getD p 0 = 0 := fun p hp => by
      have := hdig (p - i)
      rwa [show i + (p - i) = p by omega, n6 _ (by omega)] at this
    obtain ⟨b, ua, t, u', guess, f1, f5, ra, w5, k1, k2, k3, k4, k5⟩ := impl_natDiv_digit (α := α) N s D L i U u (List.replicate (i + 1) 0 ++ q) v1 v2 X u2 m hL hL2 (by omega) hD hN hu (by omega) hU d1 d2 d3 d5 hz b1 b2 b3 b4 hX hm hm1 hm2 hm3
    clear n1 n2 n3 n4 n5 n6 hm hm1 hm2 hdig hz
    have g1 : L + 1 < (digs D).length := by omega
    have g2 : i + (L + 2) < u.length := by omega
    have g3 : i + (L + 1) < u.length := by omega
    have ga : i + (L + 2) < ua.length := by omega
    have r1 : (digs D)[L + 1] = (v1 : Int) := by rw [getD_at g1, d1]
    have r3 : u[i + (L + 2)] = ((X / 65536 : Nat) : Int) := by rw [getD_at g2, d3]
    have r4 : u[i + (L + 1)] = ((X % 65536 : Nat) : Int) := by rw [getD_at g3, d4]
    have ra' : ua[i + (L + 2)] = ((X / 65536 : Nat) : Int) := by rw [getD_at ga, ra]
    have w1 : IntKind.i64.wrap ((i : Int) + ((L + 2 : Nat) : Int)) = ((i + (L + 2) : Nat) : Int) := wrap_add (by omega)
    have w2 : IntKind.i64.wrap (((i + (L + 2) : Nat) : Int) - 1) = ((i + (L + 1) : Nat) : Int) := by rw [wrap_i64 (by omega) (by omega)]; omega
    have w3 : IntKind.i64.wrap (((L + 2 : Nat) : Int) - 1) = ((L + 1 : Nat) : Int) := by rw [wrap_i64 (by omega) (by omega)]; omega
    have hX4 : X < 4294967296 := by omega
    have t1 : shlI .i64 ((X / 65536 : Nat) : Int) (16 : Int) = ((X / 65536 * 65536 : Nat) : Int) := shl_i (k := 16) (by omega) (by omega)
    have t2 : bitI .or .i64 ((X / 65536 * 65536 : Nat) : Int) ((X % 65536 : Nat) : Int) = (X : Int) := by
      rw [bitI_or (by omega) (by omega)]
      have := or_add (u := X % 65536) (v := X / 65536) (r := 16) (by omega)
      rw [show (2 : Nat) ^ 16 = 65536 by decide] at this
      rw [this]; omega
    have hv10 : ¬ (v1 : Int) = 0 := by omega
    have t3 : Int.tdiv (X : Int) (v1 : Int) = ((X / v1 : Nat) : Int) := by rw [Int.tdiv_eq_ediv_of_nonneg (by omega)]; rfl
    have t4 : Int.tmod (X : Int) (v1 : Int) = ((X % v1 : Nat) : Int) := by rw [Int.tmod_eq_emod_of_nonneg (by omega)]; rfl
    have hXle : X / v1 ≤ X := Nat.div_le_self X v1
    have w4 : IntKind.i64.wrap ((X / v1 : Nat) : Int) = ((X / v1 : Nat) : Int) := wrapn (by omega)
    have hul' : u'.length = L + 2 + M := by rw [k2, hul]
    have hUm : U % D < D := Nat.mod_lt U hD
    have hUd : U / D < 65536 := (Nat.div_lt_iff_lt_mul hD).2 (by rw [Nat.mul_comm]; exact hU1)
    have hUdm := Nat.div_add_mod U D
    have hvu : val u' = val u - 65536 ^ i * (((U / D : Nat) : Int) * D) := by
      have a1 := val_split u' i (by omega)
      have a2 := val_split u i (by omega)
      rw [take_same (by rw [hul', hul]) k4, k5] at a1
      rw [hU] at a2
      have a3 : (U : Int) = D * ((U / D : Nat) : Int) + ((U % D : Nat) : Int) := by rw [← Int.natCast_mul, ← Int.natCast_add, hUdm]
      grind
    generalize U / D = Q at *
    generalize U % D = R at *
    have hlenq : i < (List.replicate (i + 1) (0 : Int) ++ q).length := by simp; omega
    obtain ⟨u9, q9, z1, z2⟩ := ih f (by omega) (by omega) u' ((Q : Int) :: q) k3 hul' (dig_cons.2 ⟨by omega, hq⟩) (by simp; omega) (by rw [k5]; omega) (by
      rw [hvu, val, ← hv, Int.pow_succ]; grind)
    refine ⟨u9, q9, ?_, z2⟩
    rw [impl_natDiv_L4.succ, e]
    unfold impl_natDiv_L4r
    simp only [cast_nn, cast_neg, cond_true, cond_false, Int.toNat_natCast, w1, w2, w3, decide_eq_true g2, List.getElem?_eq_getElem g2, decide_eq_true g3, List.getElem?_eq_getElem g3, List.getElem?_eq_getElem g1, r1, r3, r4, t1, t2, hv10, decide_false, t3, t4, w4, guess, hL, f1, decide_eq_true ga, List.getElem?_eq_getElem ga, ra', w5, k1, decide_eq_true hlenq, List.getElem?_eq_getElem hlenq, rep_set, e2]
    exact z1
theorem impl_natDiv_eq {α : Type} (N a b : Nat) (k : List Int → List Int → Option α) (h1 : a < cap0) (h2 : b < cap0) (hb : b ≠ 0) (hN : cap < N) : impl_natDiv N (digs a) (digs b) k = k (digs (a / b)) (digs (a % b)) := by
 have hst := cap0_step
 have c1 : a < cap := by omega
 have c2 : b < cap := by omega
 have l1 := len_cap0 h1
 have l2 := len_cap0 h2
 have hNN := cap_N hN
 have ht := digs_top hb
 obtain ⟨L, hL⟩ : ∃ L, (digs b).length = L + 1 := ⟨(digs b).length - 1, by have := List.length_pos_iff.2 (digs_ne hb); omega⟩
 rw [hL, Nat.add_sub_cancel] at ht
 have hLb : L < (digs b).length := by omega
 have hbL : (digs b)[L] = ((b / 65536 ^ L : Nat) : Int) := by rw [getD_at hLb, getD_digs, Nat.mod_eq_of_lt ht.2]
 have hb0 : 0 < b := by omega
 rw [impl_natDiv.eq]
 unfold impl_natDiv.b
 simp only [impl_natCmp_eq N _ _ _ c1 c2 hN, cmpN_neg]
 by_cases hlt : a < b
 ·simp only [hlt, decide_true, cond_true]
  rw [Nat.div_eq_of_lt hlt, Nat.mod_eq_of_lt hlt, digs_zero]
 simp only [hlt, decide_false, cond_false]
 by_cases hL0 : L = 0
 ·subst hL0
  rw [Nat.pow_zero, Nat.div_one] at ht
  have e1 : (((digs b).length : Nat) : Int) = 1 := by omega
  have eb : digs b = [(b : Int)] := digs_one hb ht.2
  have e2 : ((digs a).length : Int) ≤ ((8796093022208 : Nat) : Int) := by omega
  have e3 : IntKind.i64.wrap (((digs a).length : Int) - 1) = ((digs a).length : Int) - 1 := wrap_i64 (by omega) (by omega)
  obtain ⟨r, q, f, f1, f2, f3, f4⟩ := impl_natDiv_small (α := α) N (digs a) (dig_digs a) (by omega) b hb0 ht.2 (fun x602 x603 => impl_trim N x603 (fun x616 => let x617 := [x602]; impl_trim N x617 (fun x618 => k x616 x618))) (digs a).length N (by omega) (by omega) 0 [] hb0 dig_nil (by simp) (by simp [val])
  rw [List.append_nil, show ((0 : Nat) : Int) = 0 from rfl] at f
  rw [val_digs] at f4
  obtain ⟨u1, u2⟩ := div_uniq (A := a) (D := b) rfl rfl f4 (by omega) (by omega)
  have hr : r = a % b := by clear f f4 u1; exact Int.ofNat.inj u2
  simp only [e1, decide_true, cond_true, cast_nn, e2, Int.toNat_natCast, Int.le_refl, e3]
  rw [eb] at *
  rw [f]
  simp only []
  rw [impl_trim_eq N q _ (by omega) (by omega), impl_trim_eq N [(r : Int)] _ (by simp) (by simp; omega), tl_of f2 u1, tl_of (n := r) (dig_cons.2 ⟨by omega, dig_nil⟩) (by simp [val]), hr]
 have e1 : ¬ (((digs b).length : Nat) : Int) = 1 := by omega
 have wL : IntKind.i64.wrap (((digs b).length : Int) - 1) = (L : Int) := by rw [hL]; exact pred_i (by omega)
 have h65 : 65536 ≤ b := by
  have h3 := digs_len_ge hb
  rw [hL, Nat.add_sub_cancel] at h3
  have h4 : 65536 ^ 1 ≤ 65536 ^ L := Nat.pow_le_pow_right (by omega) (by omega)
  exact Nat.le_trans h4 h3
 generalize hT : b / 65536 ^ L = T at *
 have wT : IntKind.u64.wrap (T : Int) = (T : Int) := wrap_u64 (by omega) (by omega)
 have hbl := blen_16 ht.2
 have hbits : ∀ k1 : Int → Option α, math_bits_Len N (T : Int) k1 = k1 ((blen T : Nat) : Int) := by
  intro k1
  rw [math_bits_Len.eq]
  unfold math_bits_Len.b
  rw [math_bits_Len64_eq N T (by omega)]
 obtain ⟨s, hs⟩ : ∃ s, 16 - blen T = s := ⟨_, rfl⟩
 have ws : IntKind.i64.wrap ((16 : Int) - ((blen T : Nat) : Int)) = (s : Int) := by rw [wrap_i64 (by omega) (by omega)]; omega
 have hs16 : s ≤ 16 := by omega
 have hp0 : 0 < 2 ^ s := Nat.pow_pos (by omega)
 have hp1 : 2 ^ s ≤ 65536 := Nat.pow_le_pow_right (n := 2) (show 2 > 0 by omega) (show s ≤ 16 by omega)
 have sA := fun k1 => impl_natShift_pos (α := α) N a s k1 c1 (by omega) hN
 have sB := fun k1 => impl_natShift_pos (α := α) N b s k1 c2 (by omega) hN
 obtain ⟨sc1, sc2⟩ := scale_eq (a := a) (b := b) hp0
 have sN := fun (x : Nat) (hx : x < cap) k1 => impl_natShift_neg (α := α) N x s k1 hx (by omega) hN
 have hAc : a * 2 ^ s < 65536 ^ ((digs a).length + 1) := by
  rw [Nat.pow_succ]
  exact Nat.lt_of_lt_of_le (Nat.mul_lt_mul_of_pos_right (lt_digs_len a) hp0) (Nat.mul_le_mul_left _ hp1)
 have hBc : b * 2 ^ s < 65536 ^ ((digs b).length + 1) := by
  rw [Nat.pow_succ]
  exact Nat.lt_of_lt_of_le (Nat.mul_lt_mul_of_pos_right (lt_digs_len b) hp0) (Nat.mul_le_mul_left _ hp1)
 have hAl := digs_len_le hAc
 have hBl := digs_len_le hBc
 have hAcap : a * 2 ^ s < cap := lt_cap hAc (by omega)
 have hBA : b * 2 ^ s ≤ a * 2 ^ s := Nat.mul_le_mul_right _ (by omega)
 have haA : a ≤ a * 2 ^ s := Nat.le_mul_of_pos_right a hp0
 have hbB : b ≤ b * 2 ^ s := Nat.le_mul_of_pos_right b hp0
 have hrem : a * 2 ^ s % (b * 2 ^ s) < cap := Nat.lt_of_le_of_lt (Nat.mod_le _ _) hAcap
 clear hAc hBc hs hbl hst
 generalize a * 2 ^ s = A at *
 generalize b * 2 ^ s = D at *
 have lAa := digs_len_mono haA
 have lDb := digs_len_mono hbB
 have lAD := digs_len_mono hBA
 obtain ⟨P, hP⟩ : ∃ P, (digs D).length = P + 2 := ⟨(digs D).length - 2, by omega⟩
 obtain ⟨M, hM⟩ : ∃ M, (digs A).length + 1 - (P + 2) = M := ⟨_, rfl⟩
 have hM2 : (digs A).length + 1 = P + 2 + M := by omega
 have hcl : ∀ k1 : List Int → Option α, slices_Clone_int_int N (digs A) k1 = k1 (digs A) := by
  intro k1
  unfold slices_Clone_int_int
  have : ([] : List Int).length + (digs A).length ≤ 8796093022208 := by simp; omega
  simp only [decide_eq_true this, cond_true]
 have g1 : (digs A).length + [(0 : Int)].length ≤ 8796093022208 := by simp; omega
 have g2 : (digs A ++ [(0 : Int)]).length = P + 2 + M := by simp; omega
 have w1 : IntKind.i64.wrap (((digs a).length : Int) + 1) = (((digs a).length + 1 : Nat) : Int) := succ_i (by omega)
 have hL2 : ∀ k1 : Int → List Int → Int → List Int → Option α, impl_natDiv_L2 N N (digs a) (s : Int) (digs D) ((P + 2 : Nat) : Int) (digs A ++ [(0 : Int)]) k1 = k1 s (digs D) ((P + 2 : Nat) : Int) (digs A ++ [(0 : Int)]) := by
  intro k1
  obtain ⟨m, hm⟩ : ∃ m, N = m + 1 := ⟨N - 1, by omega⟩
  conv => lhs; rw [hm]
  rw [impl_natDiv_L2.succ]
  unfold impl_natDiv_L2r
  simp only [g2, w1, cast_nlt (show ¬ P + 2 + M < (digs a).length + 1 by omega), cond_false]
 have w2 : IntKind.i64.wrap (((P + 2 + M : Nat) : Int) - ((P + 2 : Nat) : Int)) = (M : Int) := by rw [wrap_i64 (by omega) (by omega)]; omega
 have w3 : IntKind.i64.wrap ((M : Int) - 1) = (M : Int) - 1 := wrap_i64 (by omega) (by omega)
 have g3 : (M : Int) ≤ ((8796093022208 : Nat) : Int) := by omega
 have hud : Dig (digs A ++ [(0 : Int)]) := dig_append.2 ⟨dig_digs A, dig_cons.2 ⟨by omega, dig_nil⟩⟩
 have huv : val (digs A ++ [(0 : Int)]) = A := by rw [val_append, val_digs]; simp [val]
 have hD0 : 0 < D := by omega
 have hud2 : val ((digs A ++ [(0 : Int)]).drop M) < D := by
  have h3 : val ((digs A).drop M) < 65536 ^ (P + 1) := by
   have := val_lt (dig_drop (dig_digs A) M)
   rw [List.length_drop, show (digs A).length - M = P + 1 by omega] at this
   exact this
  have h4 := digs_len_ge (show D ≠ 0 by omega)
  rw [hP, show P + 2 - 1 = P + 1 by omega] at h4
  rw [List.drop_append_of_le_length (by omega), val_append]
  simp only [val]
  have h5 := ipow_cast (P + 1)
  omega
 obtain ⟨u', q', f, f1, f2, f3, f4, f5, f6⟩ := impl_natDiv_loop (α := α) N (s : Int) D A P hP (by omega) hD0 (by omega) M (by omega) (fun x999 x1000 x1001 => impl_trim N x1001 (fun x1002 => impl_trim N x1000 (fun x1003 => let x1004 := IntKind.i64.wrap (0 - x999); impl_natShift N x1003 x1004 (fun x1005 => k x1002 x1005)))) M N (Nat.le_refl _) (by omega) (digs A ++ [(0 : Int)]) [] hud g2 dig_nil (by simp) hud2 (by rw [huv]; simp [val])
 rw [List.append_nil] at f
 have w4 : IntKind.i64.wrap (0 - (s : Int)) = -(s : Int) := by rw [wrap_i64 (by omega) (by omega)]; omega
 simp only [e1, decide_false, cond_false, wL, cast_neg, Int.toNat_natCast, List.getElem?_eq_getElem hLb, hbL, wT, hbits, ws, sA, sB, hcl, decide_eq_true g1, cond_true, hP, hL2, g2, w2, w3, cast_nn, Int.le_refl, decide_true, decide_eq_true g3]
 rw [f]
 simp only []
 rw [impl_trim_eq N q' _ (by omega) (by omega), impl_trim_eq N u' _ (by omega) (by omega), tl_of f3 f6, tl_of f1 f5, w4, sN _ hrem, sc1, sc2]
theorem impl_natGcd_loop {α : Type} (N : Nat) (hN : cap < N) (k : List Int → Option α) : ∀ (n a b : Nat), a < cap0 → b < cap0 → b < n → impl_natGcd_L0 N n (digs a) (digs b) k = k (digs (Nat.gcd a b)) := by
  intro n
  induction n with
  | zero => intro a b h1 h2 h; omega
  | succ n ih =>
    intro a b h1 h2 h
    rw [impl_natGcd_L0.succ]
    unfold impl_natGcd_L0r
    by_cases hb : b = 0
    · subst hb; simp [digs_zero]
    · have hp : (0 : Int) < ((digs b).length : Int) := by have := List.length_pos_iff.2 (digs_ne hb); omega
      have hm : a % b < b := Nat.mod_lt a (by omega)
      simp only [hp, decide_true, cond_true, impl_natDiv_eq N a b _ h1 h2 hb hN]
      rw [ih b (a % b) h2 (by omega) (by omega), Nat.gcd_comm b (a % b), ← Nat.gcd_rec, Nat.gcd_comm b a]
theorem impl_natGcd_eq {α : Type} (N a b : Nat) (k : List Int → Option α) (h1 : a < cap0) (h2 : b < cap0) (hN : cap < N) : impl_natGcd N (digs a) (digs b) k = k (digs (Nat.gcd a b)) := by
 have hst := cap0_step
 rw [impl_natGcd.eq]
 unfold impl_natGcd.b
 exact impl_natGcd_loop N hN _ N a b h1 h2 (by omega)
end Go.Proofs.YtnhbcpmmdblkjaaGreatDoorAm
