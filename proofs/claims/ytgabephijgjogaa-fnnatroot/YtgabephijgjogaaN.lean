/-
  Whole numbers added, taken off, multiplied and compared; numbers that are drawn; and the laws on them.
-/
import Derived.Test.YtgabephijgjogaaK
import Derived.Test.YtgabephijgjogaaY
namespace Go.Proofs.YtgabephijgjogaaAm
open Go
set_option linter.unusedVariables false
set_option linter.unusedSimpArgs false

theorem val_top {o : List Int} {i : Nat} (h : o.length = i + 1) : val o = val (o.take i) + 65536 ^ i * o.getD i 0 := by
  rw [← val_take_succ, List.take_of_length_le (by omega)]
theorem dig_take_of {o : List Int} {i : Nat} (h : ∀ m, m < i → 0 ≤ o.getD m 0 ∧ o.getD m 0 ≤ 65535) : Dig (o.take i) := by
  intro x hx
  obtain ⟨m, hm, rfl⟩ := List.mem_iff_getElem.1 hx
  rw [List.length_take] at hm
  rw [List.getElem_take, getD_at (by omega)]
  have := h m (by omega)
  omega
def nat2 (f : Nat → Nat → Nat) (x y : List Int) : List Int × Bool := if natOkB x = true ∧ natOkB y = true then fits (f (val x).toNat (val y).toNat) else ([], false)
theorem nat2_digs (f : Nat → Nat → Nat) {a b : Nat} (ha : a < 65536 ^ 256) (hb : b < 65536 ^ 256) : nat2 f (digs a) (digs b) = fits (f a b) := by
  unfold nat2
  rw [if_pos ⟨natOkB_digs ha, natOkB_digs hb⟩]
  simp only [val_digs, Int.toNat_natCast]
theorem fits_of {n : Nat} (h : n < 65536 ^ 256) : fits n = (digs n, true) := by
  unfold fits
  rw [if_pos (digs_len_le h)]
theorem fits_cases (n : Nat) : (fits n = (digs n, true) ∧ n < 65536 ^ 256) ∨ fits n = ([], false) := by
  unfold fits
  by_cases h : (digs n).length ≤ 256
  · rw [if_pos h]; exact .inl ⟨rfl, digs_lt_pow h⟩
  · rw [if_neg h]; exact .inr rfl
theorem cap2 {a : Nat} (h : a < 65536 ^ 256) : a < cap := cap0_lt (c256 h)
theorem add_lt_cap {a b : Nat} (ha : a < 65536 ^ 256) (hb : b < 65536 ^ 256) : a + b < cap := by
  obtain ⟨E, hE⟩ : ∃ E, E = 257 := ⟨_, rfl⟩
  have h := add_cap ha hb
  rw [show 256 + 1 = E from hE.symm] at h
  exact lt_cap h (by omega)
theorem mul_lt_cap {a b : Nat} (ha : a < 65536 ^ 256) (hb : b < 65536 ^ 256) : a * b < cap := by
  obtain ⟨E, hE⟩ : ∃ E, E = 512 := ⟨_, rfl⟩
  have h := mul_cap ha hb
  rw [show 256 + 256 = E from hE.symm] at h
  exact lt_cap h (by omega)
def natCmp (x y : List Int) : Int := if natOkB x = true ∧ natOkB y = true then cmpN (val x).toNat (val y).toNat else 2
theorem natCmp_digs {a b : Nat} (ha : a < 65536 ^ 256) (hb : b < 65536 ^ 256) : natCmp (digs a) (digs b) = cmpN a b := by
  unfold natCmp
  rw [if_pos ⟨natOkB_digs ha, natOkB_digs hb⟩]
  simp only [val_digs, Int.toNat_natCast]
theorem cmpN_one {a b : Nat} : decide (cmpN a b = (1 : Int)) = decide (b < a) := by
  unfold cmpN
  split
  · have : ¬ b < a := by omega
    simp [this]
  · split <;> simp [*]
theorem cmpN_neg1 {a b : Nat} : decide (cmpN a b = (-1 : Int)) = decide (a < b) := by
  unfold cmpN
  split
  · simp [*]
  · split <;> simp [*]
theorem impl_NatAdd_eq {α : Type} (N : Nat) (x y : List Int) (k : Bool → List Int → Option α) (hN : cap < N) : impl_NatAdd N x y k = k (nat2 (· + ·) x y).2 (nat2 (· + ·) x y).1 := by
  rw [impl_NatAdd.eq]
  unfold impl_NatAdd.b
  simp only [impl_nats_eq N [x, y] _ (show 2 < 1000 by omega) hN, List.all_cons, List.all_nil, Bool.and_true]
  cases h1 : natOkB x
  · simp [nat2, h1]
  cases h2 : natOkB y
  · simp [nat2, h1, h2]
  obtain ⟨a, ha, rfl⟩ := natOkB_ex h1
  obtain ⟨b, hb, rfl⟩ := natOkB_ex h2
  simp only [nat2_digs _ ha hb, Bool.and_self, Bool.not_true, cond_false, impl_natAdd_eq N a b _ (cap2 ha) (cap2 hb) hN, impl_told_eq N _ _ (add_lt_cap ha hb) hN]
theorem impl_NatMul_eq {α : Type} (N : Nat) (x y : List Int) (k : Bool → List Int → Option α) (hN : cap < N) : impl_NatMul N x y k = k (nat2 (· * ·) x y).2 (nat2 (· * ·) x y).1 := by
  rw [impl_NatMul.eq]
  unfold impl_NatMul.b
  simp only [impl_nats_eq N [x, y] _ (show 2 < 1000 by omega) hN, List.all_cons, List.all_nil, Bool.and_true]
  cases h1 : natOkB x
  · simp [nat2, h1]
  cases h2 : natOkB y
  · simp [nat2, h1, h2]
  obtain ⟨a, ha, rfl⟩ := natOkB_ex h1
  obtain ⟨b, hb, rfl⟩ := natOkB_ex h2
  simp only [nat2_digs _ ha hb, Bool.and_self, Bool.not_true, cond_false, impl_natMul_eq N a b _ (cap2 ha) (cap2 hb) hN, impl_told_eq N _ _ (mul_lt_cap ha hb) hN]
def natSub (x y : List Int) : List Int × Bool := if natOkB x = true ∧ natOkB y = true ∧ (val y).toNat ≤ (val x).toNat then (digs ((val x).toNat - (val y).toNat), true) else ([], false)
theorem natSub_digs {a b : Nat} (ha : a < 65536 ^ 256) (hb : b < 65536 ^ 256) : natSub (digs a) (digs b) = if b ≤ a then (digs (a - b), true) else ([], false) := by
  unfold natSub
  simp only [natOkB_digs ha, natOkB_digs hb, true_and, val_digs, Int.toNat_natCast]
theorem impl_NatCmp_eq {α : Type} (N : Nat) (x y : List Int) (k : Int → Option α) (hN : cap < N) : impl_NatCmp N x y k = k (natCmp x y) := by
  rw [impl_NatCmp.eq]
  unfold impl_NatCmp.b
  simp only [impl_nats_eq N [x, y] _ (show 2 < 1000 by omega) hN, List.all_cons, List.all_nil, Bool.and_true]
  cases h1 : natOkB x
  · simp [natCmp, h1]
  cases h2 : natOkB y
  · simp [natCmp, h1, h2]
  obtain ⟨a, ha, rfl⟩ := natOkB_ex h1
  obtain ⟨b, hb, rfl⟩ := natOkB_ex h2
  simp only [natCmp_digs ha hb, Bool.and_self, Bool.not_true, cond_false, impl_natCmp_eq N a b _ (cap2 ha) (cap2 hb) hN]
theorem raw_fill {α : Type} (N : Nat) (s : RdD) : ∀ (d f : Nat) (l : List Int), l.length + d = 257 → d < f → ∃ l', (∀ (k : RdD → List Int → Option α), spec_l32Rd_raw_L1 N f s l k = k s l') ∧ l'.length = 257 := by
  intro d
  induction d with
  | zero =>
    intro f l h hf
    obtain ⟨f, rfl⟩ : ∃ m, f = m + 1 := ⟨f - 1, by omega⟩
    refine ⟨l, fun k => ?_, by omega⟩
    rw [spec_l32Rd_raw_L1.succ]
    unfold spec_l32Rd_raw_L1r
    have : ¬ ((l.length : Nat) : Int) ≤ 256 := by omega
    simp only [this, decide_false, cond_false]
  | succ d ih =>
    intro f l h hf
    obtain ⟨f, rfl⟩ : ∃ m, f = m + 1 := ⟨f - 1, by omega⟩
    obtain ⟨l', e, h2⟩ := ih f (l ++ [1]) (by simp; omega) (by omega)
    refine ⟨l', fun k => ?_, h2⟩
    rw [spec_l32Rd_raw_L1.succ]
    unfold spec_l32Rd_raw_L1r
    have h1 : ((l.length : Nat) : Int) ≤ 256 := by omega
    have h3 : decide (l.length + [(1 : Int)].length ≤ 8796093022208) = true := by simp; omega
    simp only [h1, decide_true, cond_true, h3]
    exact e k
theorem raw_ok {α : Type} (N : Nat) (s : RdD) (c : Nat) (h : RdOk c s) (hc : c ≤ 700000) (hN : cap < N) :
    ∃ (l : List Int) (s' : RdD), (∀ (k : RdD → List Int → Option α), spec_l32Rd_raw N s k = k s' l) ∧ l.length ≤ 257 ∧ RdOk (c + 601) s' := by
  have hNN := cap_N hN
  obtain ⟨x, s1, e1, hx, q1⟩ := nat_ok (α := α) N s c h (by omega) hN
  obtain ⟨r, s2, e2, q2, r0, r1⟩ := pick32_ok N 80 s1 (c + 600) q1 (by omega)
  have hl := digs_len_le hx
  have app : ∀ y : Int, decide ((digs x).length + [y].length ≤ 8796093022208) = true := fun y => by simp; omega
  by_cases h0 : r = 0
  · refine ⟨digs x ++ [0], s2, fun k => ?_, by simp; omega, q2⟩
    rw [spec_l32Rd_raw.eq]
    unfold spec_l32Rd_raw.b
    simp only [spec_l32Rd_raw_J3.eq]
    unfold spec_l32Rd_raw_J3.b
    simp only [e1, e2, h0, decide_true, cond_true, app]
  by_cases h1 : r = 1
  · refine ⟨digs x ++ [65536], s2, fun k => ?_, by simp; omega, q2⟩
    rw [spec_l32Rd_raw.eq]
    unfold spec_l32Rd_raw.b
    simp only [spec_l32Rd_raw_J3.eq]
    unfold spec_l32Rd_raw_J3.b
    simp only [spec_l32Rd_raw_J5.eq]
    unfold spec_l32Rd_raw_J5.b
    simp only [e1, e2, h1, decide_true, cond_true, app, show decide ((1 : Int) = 0) = false from rfl, cond_false]
  by_cases h2 : r = 2
  · refine ⟨digs x ++ [-1], s2, fun k => ?_, by simp; omega, q2⟩
    rw [spec_l32Rd_raw.eq]
    unfold spec_l32Rd_raw.b
    simp only [spec_l32Rd_raw_J3.eq]
    unfold spec_l32Rd_raw_J3.b
    simp only [spec_l32Rd_raw_J5.eq]
    unfold spec_l32Rd_raw_J5.b
    simp only [spec_l32Rd_raw_J7.eq]
    unfold spec_l32Rd_raw_J7.b
    simp only [e1, e2, h2, decide_true, cond_true, app, show decide ((2 : Int) = 0) = false from rfl, show decide ((2 : Int) = 1) = false from rfl, cond_false]
  by_cases h3 : r = 3
  · obtain ⟨l', e3, l3⟩ := raw_fill (α := α) N s2 (257 - (digs x).length) N (digs x) (by omega) (by omega)
    refine ⟨l', s2, fun k => ?_, by omega, q2⟩
    rw [spec_l32Rd_raw.eq]
    unfold spec_l32Rd_raw.b
    simp only [spec_l32Rd_raw_J3.eq]
    unfold spec_l32Rd_raw_J3.b
    simp only [spec_l32Rd_raw_J5.eq]
    unfold spec_l32Rd_raw_J5.b
    simp only [spec_l32Rd_raw_J7.eq]
    unfold spec_l32Rd_raw_J7.b
    simp only [spec_l32Rd_raw_J9.eq]
    unfold spec_l32Rd_raw_J9.b
    simp only [e1, e2, h3, decide_true, cond_true, show decide ((3 : Int) = 0) = false from rfl, show decide ((3 : Int) = 1) = false from rfl, show decide ((3 : Int) = 2) = false from rfl, cond_false]
    exact e3 _
  · refine ⟨digs x, s2, fun k => ?_, by omega, q2⟩
    rw [spec_l32Rd_raw.eq]
    unfold spec_l32Rd_raw.b
    simp only [spec_l32Rd_raw_J3.eq]
    unfold spec_l32Rd_raw_J3.b
    simp only [spec_l32Rd_raw_J5.eq]
    unfold spec_l32Rd_raw_J5.b
    simp only [spec_l32Rd_raw_J7.eq]
    unfold spec_l32Rd_raw_J7.b
    simp only [spec_l32Rd_raw_J9.eq]
    unfold spec_l32Rd_raw_J9.b
    simp only [e1, e2, h0, h1, h2, h3, decide_false, cond_false]
theorem drawNatRoot_ok {α : Type} (N : Nat) (a : List Int) (ha : ∀ x ∈ a, 0 ≤ x ∧ x ≤ 255) (hN : cap < N) : ∃ (l : List Int), (∀ (k : List Int → Option α), spec_DrawNatRoot N a k = k l) ∧ l.length ≤ 1000 := by
  obtain ⟨s, e, q⟩ := open32_ok N a ha
  obtain ⟨l, s1, e1, hl, q1⟩ := raw_ok (α := α) N s 0 q (by omega) hN
  have key : ∃ l' : List Int, (∀ (k : List Int → Option α), spec_DrawNatRoot_J3 N s1 l k = k l') ∧ l'.length ≤ 1000 := by
    cases hok : natOkB l
    · refine ⟨l, fun k => ?_, by omega⟩
      rw [spec_DrawNatRoot_J3.eq]
      unfold spec_DrawNatRoot_J3.b
      simp only [spec_NatOk_eq N _ _ hN, hok, cond_false]
    by_cases h1 : l.length < 100
    · obtain ⟨r, s2, e2, q2, r0, r1⟩ := pick32_ok N 3 s1 (0 + 601) q1 (by omega)
      have c1 : ((l.length : Nat) : Int) < 100 := by omega
      by_cases h2 : 0 < r
      · obtain ⟨x, hx, rfl⟩ := natOkB_ex hok
        obtain ⟨r3, s3, e3, q3, r30, r31⟩ := pick32_ok N 3 s2 (0 + 601 + 1) q2 (by omega)
        have hc := cap2 hx
        have hm := mul_lt_cap hx hx
        have hx1 : x < 65536 ^ 100 := digs_lt_pow (by omega)
        have hm1 : x * x < 65536 ^ (100 + 100) := mul_cap hx1 hx1
        by_cases h4 : r3 = 0
        · have hs : x * x + 1 < 65536 ^ (100 + 100 + 1) := by
            have h1c : (1 : Nat) < 65536 ^ (100 + 100) := Nat.lt_of_lt_of_le (show 1 < 65536 ^ 1 by omega) (pow_up (by omega))
            exact add_cap hm1 h1c
          have h1c : (1 : Nat) < cap := by have := cap_ge; omega
          refine ⟨digs (x * x + 1), fun k => ?_, by have := digs_len_le hs; omega⟩
          rw [spec_DrawNatRoot_J3.eq]
          unfold spec_DrawNatRoot_J3.b
          simp only [spec_DrawNatRoot_J5.eq]
          unfold spec_DrawNatRoot_J5.b
          simp only [spec_NatOk_eq N _ _ hN, hok, c1, decide_true, cond_true, e2, h2, spec_l5Mul_eq N x x _ hc hc hN, e3, h4, ← digs1, spec_l5Add_eq N (x * x) 1 _ hm h1c hN]
        · refine ⟨digs (x * x), fun k => ?_, by have := digs_len_le hm1; omega⟩
          rw [spec_DrawNatRoot_J3.eq]
          unfold spec_DrawNatRoot_J3.b
          simp only [spec_DrawNatRoot_J5.eq]
          unfold spec_DrawNatRoot_J5.b
          simp only [spec_NatOk_eq N _ _ hN, hok, c1, decide_true, cond_true, e2, h2, spec_l5Mul_eq N x x _ hc hc hN, e3, h4, decide_false, cond_false]
      · refine ⟨l, fun k => ?_, by omega⟩
        rw [spec_DrawNatRoot_J3.eq]
        unfold spec_DrawNatRoot_J3.b
        simp only [spec_NatOk_eq N _ _ hN, hok, c1, decide_true, cond_true, e2, h2, decide_false, cond_false]
    · have c1 : ¬ ((l.length : Nat) : Int) < 100 := by omega
      refine ⟨l, fun k => ?_, by omega⟩
      rw [spec_DrawNatRoot_J3.eq]
      unfold spec_DrawNatRoot_J3.b
      simp only [spec_NatOk_eq N _ _ hN, hok, c1, decide_false, cond_true, cond_false]
  obtain ⟨l', e3, hl'⟩ := key
  refine ⟨l', fun k => ?_, hl'⟩
  rw [spec_DrawNatRoot.eq]
  unfold spec_DrawNatRoot.b
  simp only [e, e1, e3]
theorem pure_FnNatRoot (x0 : List Int) (z0 : wfD (.sl (.int .u8)) x0) : ∃ N, laws_FnNatRoot N x0 some = some true := by
  refine ⟨cap + 1, ?_⟩
  have hN : cap < cap + 1 := by omega
  generalize cap + 1 = N at *
  obtain ⟨l, e, hl⟩ := drawNatRoot_ok (α := Bool) N x0 (bytes_wf z0) hN
  rw [laws_FnNatRoot.eq]
  unfold laws_FnNatRoot.b
  by_cases h0 : (1048576 : Int) < ((x0.length : Nat) : Int)
  · simp [h0]
  simp only [h0, decide_false, cond_false, e, impl_NatRoot_eq N _ _ hN, spec_NatOk_eq N _ _ hN]
  cases hok : natOkB l
  · simp [natRoot, hok]
  obtain ⟨a, ha, rfl⟩ := natOkB_ex hok
  have hr := rt_cap ha
  obtain ⟨r1, r2⟩ := rt_ok a
  have hrr : rt a * rt a < 65536 ^ 256 := Nat.lt_of_le_of_lt r1 ha
  have h1c : (1 : Nat) < 65536 ^ 256 := Nat.lt_of_lt_of_le (show 1 < 65536 ^ 1 by omega) (pow_up (by omega))
  have hup : rt a + 1 < 65536 ^ 256 := by
    by_cases h2 : rt a ≤ 1
    · exact Nat.lt_of_lt_of_le (show rt a + 1 < 65536 ^ 1 by omega) (pow_up (by omega))
    · have : 2 * rt a ≤ rt a * rt a := Nat.mul_le_mul_right _ (by omega)
      omega
  have c1 : ¬ a < rt a * rt a := by omega
  simp only [natRoot, hok, if_true, val_digs, Int.toNat_natCast, beq_self_eq_true, Bool.not_true, cond_false, impl_NatMul_eq N _ _ _ hN, nat2_digs _ hr hr, fits_of hrr, impl_NatCmp_eq N _ _ _ hN, natCmp_digs hrr ha, cmpN_one, cmpN_eq, c1, decide_false,
    ← digs1, impl_NatAdd_eq N _ _ _ hN, nat2_digs _ hr h1c, fits_of hup, nat2_digs _ hup hup, cond_true]
  rcases fits_cases ((rt a + 1) * (rt a + 1)) with ⟨h, h2⟩ | h
  · simp only [h, Bool.not_true, cond_false, natCmp_digs h2 ha, cmpN_one, r2, decide_true]
  · simp only [h, Bool.not_false, cond_true]
end Go.Proofs.YtgabephijgjogaaAm
