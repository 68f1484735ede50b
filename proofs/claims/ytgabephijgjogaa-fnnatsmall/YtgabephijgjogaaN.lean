/-
  Whole numbers added, taken off, multiplied and compared; numbers that are drawn; and the laws on them.
-/
import Derived.Test.YtgabephijgjogaaK
import Derived.Test.YtgabephijgjogaaY
namespace Go.Proofs.YtgabephijgjogaaAm
open Go
set_option linter.unusedVariables false
set_option linter.unusedSimpArgs false

theorem impl_natSub_put {α : Type} (N : Nat) (b : List Int) (hb : Dig b) : ∀ (d i f : Nat), i + d = b.length → d < f → ∀ (o : List Int), b.length ≤ o.length → o.length < 1000000 → (∀ m, m < i → -65535 ≤ o.getD m 0) → (∀ m, i ≤ m → 0 ≤ o.getD m 0) → (∀ m, o.getD m 0 ≤ 65535) →
    ∃ o', (∀ k : List Int → Option α, impl_natSub_L0 N f b (b.length : Int) i o k = k o') ∧ o'.length = o.length ∧ (∀ m, -65535 ≤ o'.getD m 0 ∧ o'.getD m 0 ≤ 65535) ∧ val o' = val o - 65536 ^ i * val (b.drop i) := by
  intro d
  induction d with
  | zero =>
    intro i f h hf o hl hl2 h0 h1 h2
    obtain ⟨f, rfl⟩ : ∃ m, f = m + 1 := ⟨f - 1, by omega⟩
    refine ⟨o, fun k => ?_, rfl, fun m => ?_, ?_⟩
    · rw [impl_natSub_L0.succ]
      unfold impl_natSub_L0r
      simp only [cast_nlt (show ¬ i < b.length by omega), cond_false]
    · by_cases hm : m < i
      · exact ⟨h0 m hm, h2 m⟩
      · have := h1 m (by omega); exact ⟨by omega, h2 m⟩
    · rw [List.drop_of_length_le (by omega)]; simp [val]
  | succ d ih =>
    intro i f h hf o hl hl2 h0 h1 h2
    obtain ⟨f, rfl⟩ : ∃ m, f = m + 1 := ⟨f - 1, by omega⟩
    have hi : i < b.length := by omega
    have hio : i < o.length := by omega
    have x1 := dig_at hb hi
    have x2 := h1 i (Nat.le_refl _)
    have x3 := h2 i
    rw [← getD_at hio] at x2 x3
    have w1 : IntKind.i64.wrap (o[i] - b[i]) = o[i] - b[i] := wrap_i64 (by omega) (by omega)
    have hget : ∀ m, (o.set i (o[i] - b[i])).getD m 0 = if m = i then o[i] - b[i] else o.getD m 0 := by
      intro m
      by_cases hm : m = i
      · subst hm; rw [getD_set_eq hio, if_pos rfl]
      · rw [getD_set_ne (by omega), if_neg hm]
    obtain ⟨o', e, e1, e2, e5⟩ := ih (i + 1) f (by omega) (by omega) (o.set i (o[i] - b[i])) (by rw [set_len]; exact hl) (by rw [set_len]; exact hl2) (fun m hm => by
      rw [hget]; split
      · omega
      · exact h0 m (by omega)) (fun m hm => by
      rw [hget, if_neg (by omega)]; exact h1 m (by omega)) (fun m => by
      rw [hget]; split
      · omega
      · exact h2 m)
    refine ⟨o', fun k => ?_, by rw [e1, set_len], e2, ?_⟩
    · rw [impl_natSub_L0.succ]
      unfold impl_natSub_L0r
      simp only [cast_lt hi, cast_neg, cond_true, cond_false, Int.toNat_natCast, List.getElem?_eq_getElem hi, decide_eq_true hio, List.getElem?_eq_getElem hio, w1, succ_i (show i < 4611686018427387904 by omega)]
      exact e k
    · rw [e5, val_set _ _ _ hio, ← getD_at hio, val_drop_succ b i, ← getD_at hi, Int.pow_succ]
      grind
theorem val_top {o : List Int} {i : Nat} (h : o.length = i + 1) : val o = val (o.take i) + 65536 ^ i * o.getD i 0 := by
  rw [← val_take_succ, List.take_of_length_le (by omega)]
theorem dig_take_of {o : List Int} {i : Nat} (h : ∀ m, m < i → 0 ≤ o.getD m 0 ∧ o.getD m 0 ≤ 65535) : Dig (o.take i) := by
  intro x hx
  obtain ⟨m, hm, rfl⟩ := List.mem_iff_getElem.1 hx
  rw [List.length_take] at hm
  rw [List.getElem_take, getD_at (by omega)]
  have := h m (by omega)
  omega
theorem impl_natSub_borrow {α : Type} (N t : Nat) (ht : t < 1000000) : ∀ (d i f : Nat), i + d = t → d < f → ∀ (o : List Int), o.length = t → (∀ m, m < i → 0 ≤ o.getD m 0 ∧ o.getD m 0 ≤ 65535) → (-65536 ≤ o.getD i 0 ∧ o.getD i 0 ≤ 65535) → (∀ m, i < m → -65535 ≤ o.getD m 0 ∧ o.getD m 0 ≤ 65535) → 0 ≤ val o →
    ∃ o', (∀ k : List Int → Option α, impl_natSub_L2 N f (t : Int) i o k = k o') ∧ o'.length = t ∧ Dig o' ∧ val o' = val o := by
  intro d
  induction d with
  | zero =>
    intro i f h hf o hl h0 h1 h2 hv
    obtain ⟨f, rfl⟩ : ∃ m, f = m + 1 := ⟨f - 1, by omega⟩
    have hit : i = t := by omega
    subst hit
    refine ⟨o, fun k => ?_, hl, ?_, rfl⟩
    · rw [impl_natSub_L2.succ]
      unfold impl_natSub_L2r
      simp only [cast_nlt (show ¬ i < i by omega), cond_false]
    · have := dig_take_of h0
      rwa [List.take_of_length_le (by omega)] at this
  | succ d ih =>
    intro i f h hf o hl h0 h1 h2 hv
    obtain ⟨f, rfl⟩ : ∃ m, f = m + 1 := ⟨f - 1, by omega⟩
    have hi : i < o.length := by omega
    have hit : i < t := by omega
    have hg := getD_at hi
    by_cases hn : o[i] < 0
    · have hi1 : i + 1 < o.length := by
        refine Classical.byContradiction fun hc => ?_
        have e := val_top (o := o) (i := i) (by omega)
        have hd := dig_take_of h0
        have h3 := val_lt hd
        rw [List.length_take, Nat.min_eq_left (by omega)] at h3
        have hp := ipow_pos i
        have : (65536 : Int) ^ i * o.getD i 0 ≤ 65536 ^ i * (-1) := Int.mul_le_mul_of_nonneg_left (by omega) (by omega)
        omega
      have hg1 := getD_at hi1
      have h21 := h2 (i + 1) (by omega)
      have w1 : IntKind.i64.wrap (o[i] + 65536) = o[i] + 65536 := wrap_i64 (by omega) (by omega)
      have w2 : IntKind.i64.wrap (o[i + 1] - 1) = o[i + 1] - 1 := wrap_i64 (by omega) (by omega)
      have hi1s : i + 1 < (o.set i (o[i] + 65536)).length := by rw [set_len]; exact hi1
      have hs1 : (o.set i (o[i] + 65536))[i + 1] = o[i + 1] := by rw [List.getElem_set_ne (by omega)]
      have hget : ∀ m, ((o.set i (o[i] + 65536)).set (i + 1) (o[i + 1] - 1)).getD m 0 = if m = i + 1 then o[i + 1] - 1 else if m = i then o[i] + 65536 else o.getD m 0 := by
        intro m
        by_cases hm : m = i + 1
        · subst hm; rw [getD_set_eq hi1s, if_pos rfl]
        · rw [getD_set_ne (by omega), if_neg hm]
          by_cases hm2 : m = i
          · subst hm2; rw [getD_set_eq hi, if_pos rfl]
          · rw [getD_set_ne (by omega), if_neg hm2]
      have hval : val ((o.set i (o[i] + 65536)).set (i + 1) (o[i + 1] - 1)) = val o := by
        rw [val_set _ _ _ hi1s, ← getD_at hi1s, hs1, val_set _ _ _ hi, ← hg, Int.pow_succ]
        grind
      obtain ⟨o', e, e1, e2, e3⟩ := ih (i + 1) f (by omega) (by omega) ((o.set i (o[i] + 65536)).set (i + 1) (o[i + 1] - 1)) (by rw [set_len, set_len]; exact hl) (fun m hm => by
        rw [hget, if_neg (by omega)]
        split
        · omega
        · exact h0 m (by omega)) (by rw [hget, if_pos rfl]; omega) (fun m hm => by
        rw [hget, if_neg (by omega), if_neg (by omega)]; exact h2 m (by omega)) (by rw [hval]; exact hv)
      refine ⟨o', fun k => ?_, e1, e2, by rw [e3, hval]⟩
      rw [impl_natSub_L2.succ]
      unfold impl_natSub_L2r
      rw [impl_natSub_J10.eq]
      unfold impl_natSub_J10.b
      have c1 : ¬ ((i + 1 : Nat) : Int) < 0 := by omega
      simp only [cast_lt hit, cast_neg, cond_true, cond_false, Int.toNat_natCast, decide_eq_true hi, List.getElem?_eq_getElem hi, hn, decide_true, w1, succ_i (show i < 4611686018427387904 by omega), decide_eq_true hi1s, List.getElem?_eq_getElem hi1s, hs1, w2]
      exact e k
    · obtain ⟨o', e, e1, e2, e3⟩ := ih (i + 1) f (by omega) (by omega) o hl (fun m hm => by
        by_cases hm2 : m = i
        · subst hm2; omega
        · exact h0 m (by omega)) (by have := h2 (i + 1) (by omega); omega) (fun m hm => h2 m (by omega)) hv
      refine ⟨o', fun k => ?_, e1, e2, e3⟩
      rw [impl_natSub_L2.succ]
      unfold impl_natSub_L2r
      rw [impl_natSub_J10.eq]
      unfold impl_natSub_J10.b
      simp only [cast_lt hit, cast_neg, cond_true, cond_false, Int.toNat_natCast, decide_eq_true hi, List.getElem?_eq_getElem hi, hn, decide_false, succ_i (show i < 4611686018427387904 by omega)]
      exact e k
theorem impl_natSub_eq {α : Type} (N a b : Nat) (k : List Int → Option α) (h1 : a < cap) (h2 : b ≤ a) (hN : cap < N) : impl_natSub N (digs a) (digs b) k = k (digs (a - b)) := by
  have l1 := len_cap h1
  have hNN := cap_N hN
  have l2 := digs_len_mono h2
  rw [impl_natSub.eq]
  unfold impl_natSub.b slices_Clone_int_int
  have hc : decide (List.length ([] : List Int) + List.length (digs a) ≤ 8796093022208) = true := by simp; omega
  simp only [hc, cond_true]
  obtain ⟨o, e, e1, e2, e3⟩ := impl_natSub_put (α := α) N (digs b) (dig_digs b) (digs b).length 0 N (by omega) (by omega) (digs a) l2 (by omega) (fun m hm => by omega) (fun m _ => (dig_getD (dig_digs a) m).1) (fun m => by have := (dig_getD (dig_digs a) m).2; omega)
  rw [show ((0 : Nat) : Int) = 0 from rfl] at e
  rw [e]
  simp only [Int.pow_zero, Int.one_mul, List.drop_zero, val_digs] at e3
  have hz := e2 0
  obtain ⟨o', g, g1, g2, g3⟩ := impl_natSub_borrow (α := α) N o.length (by omega) o.length 0 N (by omega) (by omega) o rfl (fun m hm => by omega) (by omega) (fun m _ => e2 m) (by omega)
  rw [show ((0 : Nat) : Int) = 0 from rfl] at g
  rw [g, impl_trim_eq N _ _ (by omega) (by omega), tl_of (n := a - b) g2 (by omega)]
def nat2 (f : Nat → Nat → Nat) (x y : List Int) : List Int × Bool := if natOkB x = true ∧ natOkB y = true then fits (f (val x).toNat (val y).toNat) else ([], false)
theorem nat2_digs (f : Nat → Nat → Nat) {a b : Nat} (ha : a < 65536 ^ 256) (hb : b < 65536 ^ 256) : nat2 f (digs a) (digs b) = fits (f a b) := by
  unfold nat2
  rw [if_pos ⟨natOkB_digs ha, natOkB_digs hb⟩]
  simp only [val_digs, Int.toNat_natCast]
theorem fits_of {n : Nat} (h : n < 65536 ^ 256) : fits n = (digs n, true) := by
  unfold fits
  rw [if_pos (digs_len_le h)]
theorem cap2 {a : Nat} (h : a < 65536 ^ 256) : a < cap := cap0_lt (c256 h)
theorem add_lt_cap {a b : Nat} (ha : a < 65536 ^ 256) (hb : b < 65536 ^ 256) : a + b < cap := by
  obtain ⟨E, hE⟩ : ∃ E, E = 257 := ⟨_, rfl⟩
  have h := add_cap ha hb
  rw [show 256 + 1 = E from hE.symm] at h
  exact lt_cap h (by omega)
def natCmp (x y : List Int) : Int := if natOkB x = true ∧ natOkB y = true then cmpN (val x).toNat (val y).toNat else 2
theorem natCmp_digs {a b : Nat} (ha : a < 65536 ^ 256) (hb : b < 65536 ^ 256) : natCmp (digs a) (digs b) = cmpN a b := by
  unfold natCmp
  rw [if_pos ⟨natOkB_digs ha, natOkB_digs hb⟩]
  simp only [val_digs, Int.toNat_natCast]
theorem impl_NatAdd_eq {α : Type} (N : Nat) (x y : List Int) (k : Bool → List Int → Option α) (hN : cap < N) : impl_NatAdd N x y k = k (nat2 (· + ·) x y).2 (nat2 (· + ·) x y).1 := by
  rw [impl_NatAdd.eq]
  unfold impl_NatAdd.b
  simp only [impl_nats_eq N [x, y] _ (show 2 < 1000 by omega) hN, List.all_cons, List.all_nil, Bool.and_true]
  cases h1 : natOkB x
  · simp [nat2, h1]
  cases h2 : natOkB y
  · simp [nat2, h1, h2]
  obtain ⟨a, ha, rfl⟩ := natOkB_ex h1
  obtain ⟨b, hb, rfl⟩ := natOkB_ex h2
  simp only [nat2_digs _ ha hb, Bool.and_self, Bool.not_true, cond_false, impl_natAdd_eq N a b _ (cap2 ha) (cap2 hb) hN, impl_told_eq N _ _ (add_lt_cap ha hb) hN]
def natSub (x y : List Int) : List Int × Bool := if natOkB x = true ∧ natOkB y = true ∧ (val y).toNat ≤ (val x).toNat then (digs ((val x).toNat - (val y).toNat), true) else ([], false)
theorem natSub_digs {a b : Nat} (ha : a < 65536 ^ 256) (hb : b < 65536 ^ 256) : natSub (digs a) (digs b) = if b ≤ a then (digs (a - b), true) else ([], false) := by
  unfold natSub
  simp only [natOkB_digs ha, natOkB_digs hb, true_and, val_digs, Int.toNat_natCast]
theorem impl_NatSub_eq {α : Type} (N : Nat) (x y : List Int) (k : Bool → List Int → Option α) (hN : cap < N) : impl_NatSub N x y k = k (natSub x y).2 (natSub x y).1 := by
  rw [impl_NatSub.eq]
  unfold impl_NatSub.b
  simp only [impl_nats_eq N [x, y] _ (show 2 < 1000 by omega) hN, List.all_cons, List.all_nil, Bool.and_true]
  cases h1 : natOkB x
  · simp [natSub, h1]
  cases h2 : natOkB y
  · simp [natSub, h1, h2]
  obtain ⟨a, ha, rfl⟩ := natOkB_ex h1
  obtain ⟨b, hb, rfl⟩ := natOkB_ex h2
  simp only [natSub_digs ha hb, Bool.and_self, Bool.not_true, cond_false, impl_natCmp_eq N a b _ (cap2 ha) (cap2 hb) hN, cmpN_neg]
  by_cases h : a < b
  · have : ¬ b ≤ a := by omega
    simp [h, this]
  · have h' : b ≤ a := by omega
    have hs : a - b < 65536 ^ 256 := Nat.lt_of_le_of_lt (Nat.sub_le _ _) ha
    simp only [h, h', decide_false, cond_false, if_true, impl_natSub_eq N a b _ (cap2 ha) h' hN, impl_told_eq N _ _ (cap2 hs) hN, fits_of hs]
theorem impl_NatCmp_eq {α : Type} (N : Nat) (x y : List Int) (k : Int → Option α) (hN : cap < N) : impl_NatCmp N x y k = k (natCmp x y) := by
  rw [impl_NatCmp.eq]
  unfold impl_NatCmp.b
  simp only [impl_nats_eq N [x, y] _ (show 2 < 1000 by omega) hN, List.all_cons, List.all_nil, Bool.and_true]
  cases h1 : natOkB x
  · simp [natCmp, h1]
  cases h2 : natOkB y
  · simp [natCmp, h1, h2]
  obtain ⟨a, ha, rfl⟩ := natOkB_ex h1
  obtain ⟨b, hb, rfl⟩ := natOkB_ex h2
  simp only [natCmp_digs ha hb, Bool.and_self, Bool.not_true, cond_false, impl_natCmp_eq N a b _ (cap2 ha) (cap2 hb) hN]
end Go.Proofs.YtgabephijgjogaaAm
