/-
  Whole numbers added, taken off, multiplied and compared; numbers that are drawn; and the laws on them.
-/
import Derived.Test.YtgabephijgjogaaK
import Derived.Test.YtgabephijgjogaaY
namespace Go.Proofs.YtgabephijgjogaaAm
open Go
set_option linter.unusedVariables false
set_option linter.unusedSimpArgs false

theorem val_top {o : List Int} {i : Nat} (h : o.length = i + 1) : val o = val (o.take i) + 65536 ^ i * o.getD i 0 := by
  rw [← val_take_succ, List.take_of_length_le (by omega)]
theorem dig_take_of {o : List Int} {i : Nat} (h : ∀ m, m < i → 0 ≤ o.getD m 0 ∧ o.getD m 0 ≤ 65535) : Dig (o.take i) := by
  intro x hx
  obtain ⟨m, hm, rfl⟩ := List.mem_iff_getElem.1 hx
  rw [List.length_take] at hm
  rw [List.getElem_take, getD_at (by omega)]
  have := h m (by omega)
  omega
def nat2 (f : Nat → Nat → Nat) (x y : List Int) : List Int × Bool := if natOkB x = true ∧ natOkB y = true then fits (f (val x).toNat (val y).toNat) else ([], false)
theorem nat2_digs (f : Nat → Nat → Nat) {a b : Nat} (ha : a < 65536 ^ 256) (hb : b < 65536 ^ 256) : nat2 f (digs a) (digs b) = fits (f a b) := by
  unfold nat2
  rw [if_pos ⟨natOkB_digs ha, natOkB_digs hb⟩]
  simp only [val_digs, Int.toNat_natCast]
theorem fits_of {n : Nat} (h : n < 65536 ^ 256) : fits n = (digs n, true) := by
  unfold fits
  rw [if_pos (digs_len_le h)]
theorem fits_cases (n : Nat) : (fits n = (digs n, true) ∧ n < 65536 ^ 256) ∨ fits n = ([], false) := by
  unfold fits
  by_cases h : (digs n).length ≤ 256
  · rw [if_pos h]; exact .inl ⟨rfl, digs_lt_pow h⟩
  · rw [if_neg h]; exact .inr rfl
theorem cap2 {a : Nat} (h : a < 65536 ^ 256) : a < cap := cap0_lt (c256 h)
theorem add_lt_cap {a b : Nat} (ha : a < 65536 ^ 256) (hb : b < 65536 ^ 256) : a + b < cap := by
  obtain ⟨E, hE⟩ : ∃ E, E = 257 := ⟨_, rfl⟩
  have h := add_cap ha hb
  rw [show 256 + 1 = E from hE.symm] at h
  exact lt_cap h (by omega)
theorem mul_lt_cap {a b : Nat} (ha : a < 65536 ^ 256) (hb : b < 65536 ^ 256) : a * b < cap := by
  obtain ⟨E, hE⟩ : ∃ E, E = 512 := ⟨_, rfl⟩
  have h := mul_cap ha hb
  rw [show 256 + 256 = E from hE.symm] at h
  exact lt_cap h (by omega)
def natCmp (x y : List Int) : Int := if natOkB x = true ∧ natOkB y = true then cmpN (val x).toNat (val y).toNat else 2
theorem natCmp_digs {a b : Nat} (ha : a < 65536 ^ 256) (hb : b < 65536 ^ 256) : natCmp (digs a) (digs b) = cmpN a b := by
  unfold natCmp
  rw [if_pos ⟨natOkB_digs ha, natOkB_digs hb⟩]
  simp only [val_digs, Int.toNat_natCast]
theorem cmpN_one {a b : Nat} : decide (cmpN a b = (1 : Int)) = decide (b < a) := by
  unfold cmpN
  split
  · have : ¬ b < a := by omega
    simp [this]
  · split <;> simp [*]
theorem cmpN_neg1 {a b : Nat} : decide (cmpN a b = (-1 : Int)) = decide (a < b) := by
  unfold cmpN
  split
  · simp [*]
  · split <;> simp [*]
def natSub (x y : List Int) : List Int × Bool := if natOkB x = true ∧ natOkB y = true ∧ (val y).toNat ≤ (val x).toNat then (digs ((val x).toNat - (val y).toNat), true) else ([], false)
theorem natSub_digs {a b : Nat} (ha : a < 65536 ^ 256) (hb : b < 65536 ^ 256) : natSub (digs a) (digs b) = if b ≤ a then (digs (a - b), true) else ([], false) := by
  unfold natSub
  simp only [natOkB_digs ha, natOkB_digs hb, true_and, val_digs, Int.toNat_natCast]
theorem raw_fill {α : Type} (N : Nat) (s : RdD) : ∀ (d f : Nat) (l : List Int), l.length + d = 257 → d < f → ∃ l', (∀ (k : RdD → List Int → Option α), spec_l32Rd_raw_L1 N f s l k = k s l') ∧ l'.length = 257 := by
  intro d
  induction d with
  | zero =>
    intro f l h hf
    obtain ⟨f, rfl⟩ : ∃ m, f = m + 1 := ⟨f - 1, by omega⟩
    refine ⟨l, fun k => ?_, by omega⟩
    rw [spec_l32Rd_raw_L1.succ]
    unfold spec_l32Rd_raw_L1r
    have : ¬ ((l.length : Nat) : Int) ≤ 256 := by omega
    simp only [this, decide_false, cond_false]
  | succ d ih =>
    intro f l h hf
    obtain ⟨f, rfl⟩ : ∃ m, f = m + 1 := ⟨f - 1, by omega⟩
    obtain ⟨l', e, h2⟩ := ih f (l ++ [1]) (by simp; omega) (by omega)
    refine ⟨l', fun k => ?_, h2⟩
    rw [spec_l32Rd_raw_L1.succ]
    unfold spec_l32Rd_raw_L1r
    have h1 : ((l.length : Nat) : Int) ≤ 256 := by omega
    have h3 : decide (l.length + [(1 : Int)].length ≤ 8796093022208) = true := by simp; omega
    simp only [h1, decide_true, cond_true, h3]
    exact e k
theorem raw_ok {α : Type} (N : Nat) (s : RdD) (c : Nat) (h : RdOk c s) (hc : c ≤ 700000) (hN : cap < N) :
    ∃ (l : List Int) (s' : RdD), (∀ (k : RdD → List Int → Option α), spec_l32Rd_raw N s k = k s' l) ∧ l.length ≤ 257 ∧ RdOk (c + 601) s' := by
  have hNN := cap_N hN
  obtain ⟨x, s1, e1, hx, q1⟩ := nat_ok (α := α) N s c h (by omega) hN
  obtain ⟨r, s2, e2, q2, r0, r1⟩ := pick32_ok N 80 s1 (c + 600) q1 (by omega)
  have hl := digs_len_le hx
  have app : ∀ y : Int, decide ((digs x).length + [y].length ≤ 8796093022208) = true := fun y => by simp; omega
  by_cases h0 : r = 0
  · refine ⟨digs x ++ [0], s2, fun k => ?_, by simp; omega, q2⟩
    rw [spec_l32Rd_raw.eq]
    unfold spec_l32Rd_raw.b
    simp only [spec_l32Rd_raw_J3.eq]
    unfold spec_l32Rd_raw_J3.b
    simp only [e1, e2, h0, decide_true, cond_true, app]
  by_cases h1 : r = 1
  · refine ⟨digs x ++ [65536], s2, fun k => ?_, by simp; omega, q2⟩
    rw [spec_l32Rd_raw.eq]
    unfold spec_l32Rd_raw.b
    simp only [spec_l32Rd_raw_J3.eq]
    unfold spec_l32Rd_raw_J3.b
    simp only [spec_l32Rd_raw_J5.eq]
    unfold spec_l32Rd_raw_J5.b
    simp only [e1, e2, h1, decide_true, cond_true, app, show decide ((1 : Int) = 0) = false from rfl, cond_false]
  by_cases h2 : r = 2
  · refine ⟨digs x ++ [-1], s2, fun k => ?_, by simp; omega, q2⟩
    rw [spec_l32Rd_raw.eq]
    unfold spec_l32Rd_raw.b
    simp only [spec_l32Rd_raw_J3.eq]
    unfold spec_l32Rd_raw_J3.b
    simp only [spec_l32Rd_raw_J5.eq]
    unfold spec_l32Rd_raw_J5.b
    simp only [spec_l32Rd_raw_J7.eq]
    unfold spec_l32Rd_raw_J7.b
    simp only [e1, e2, h2, decide_true, cond_true, app, show decide ((2 : Int) = 0) = false from rfl, show decide ((2 : Int) = 1) = false from rfl, cond_false]
  by_cases h3 : r = 3
  · obtain ⟨l', e3, l3⟩ := raw_fill (α := α) N s2 (257 - (digs x).length) N (digs x) (by omega) (by omega)
    refine ⟨l', s2, fun k => ?_, by omega, q2⟩
    rw [spec_l32Rd_raw.eq]
    unfold spec_l32Rd_raw.b
    simp only [spec_l32Rd_raw_J3.eq]
    unfold spec_l32Rd_raw_J3.b
    simp only [spec_l32Rd_raw_J5.eq]
    unfold spec_l32Rd_raw_J5.b
    simp only [spec_l32Rd_raw_J7.eq]
    unfold spec_l32Rd_raw_J7.b
    simp only [spec_l32Rd_raw_J9.eq]
    unfold spec_l32Rd_raw_J9.b
    simp only [e1, e2, h3, decide_true, cond_true, show decide ((3 : Int) = 0) = false from rfl, show decide ((3 : Int) = 1) = false from rfl, show decide ((3 : Int) = 2) = false from rfl, cond_false]
    exact e3 _
  · refine ⟨digs x, s2, fun k => ?_, by omega, q2⟩
    rw [spec_l32Rd_raw.eq]
    unfold spec_l32Rd_raw.b
    simp only [spec_l32Rd_raw_J3.eq]
    unfold spec_l32Rd_raw_J3.b
    simp only [spec_l32Rd_raw_J5.eq]
    unfold spec_l32Rd_raw_J5.b
    simp only [spec_l32Rd_raw_J7.eq]
    unfold spec_l32Rd_raw_J7.b
    simp only [spec_l32Rd_raw_J9.eq]
    unfold spec_l32Rd_raw_J9.b
    simp only [e1, e2, h0, h1, h2, h3, decide_false, cond_false]
theorem drawNatGcd_ok {α : Type} (N : Nat) (x : List Int) (hx : ∀ y ∈ x, 0 ≤ y ∧ y ≤ 255) (hN : cap < N) : ∃ (a b : List Int), (∀ (k : List Int → List Int → Option α), spec_DrawNatGcd N x k = k a b) ∧ a.length ≤ 1000 ∧ b.length ≤ 1000 := by
  obtain ⟨s, e, q⟩ := open32_ok N x hx
  obtain ⟨a, s1, e1, ha, q1⟩ := raw_ok (α := α) N s 0 q (by omega) hN
  obtain ⟨b, s2, e2, hb, q2⟩ := raw_ok (α := α) N s1 (0 + 601) q1 (by omega) hN
  obtain ⟨z, s3, e3, hz, q3⟩ := nat_ok (α := α) N s2 (0 + 601 + 601) q2 (by omega) hN
  obtain ⟨r, s4, e4, q4, _, _⟩ := pick32_ok N 3 s3 (0 + 601 + 601 + 600) q3 (by omega)
  have hlz := digs_len_le hz
  have w1 : IntKind.i64.wrap (((a.length : Nat) : Int) + (((digs z).length : Nat) : Int)) = ((a.length + (digs z).length : Nat) : Int) := wrap_add (by omega)
  have w2 : IntKind.i64.wrap (((b.length : Nat) : Int) + (((digs z).length : Nat) : Int)) = ((b.length + (digs z).length : Nat) : Int) := wrap_add (by omega)
  have step : ∀ k : List Int → List Int → Option α, spec_DrawNatGcd N x k = bif natOkB a then (bif natOkB b then (bif decide (((a.length + (digs z).length : Nat) : Int) < 200) then (bif decide (((b.length + (digs z).length : Nat) : Int) < 200) then (bif decide ((0 : Int) < r) then spec_l5Mul N a (digs z) (fun x2608 => spec_l5Mul N b (digs z) (fun x2609 => k x2608 x2609)) else k a b) else k a b) else k a b) else k a b) else k a b := by
    intro k
    rw [spec_DrawNatGcd.eq]
    unfold spec_DrawNatGcd.b
    simp only [e, e1, e2, e3, spec_NatOk_eq N _ _ hN, w1, w2, e4]
  by_cases h : natOkB a = true ∧ natOkB b = true ∧ a.length + (digs z).length < 200 ∧ b.length + (digs z).length < 200 ∧ 0 < r
  · obtain ⟨h1, h2, h3, h4, h5⟩ := h
    obtain ⟨u, hu, rfl⟩ := natOkB_ex h1
    obtain ⟨v, hv, rfl⟩ := natOkB_ex h2
    obtain ⟨E, hE⟩ : ∃ E, E = 200 := ⟨_, rfl⟩
    have lu : u < 65536 ^ E := digs_lt_pow (by omega)
    have lv : v < 65536 ^ E := digs_lt_pow (by omega)
    have lz : z < 65536 ^ E := digs_lt_pow (by omega)
    have m1 : u * z < 65536 ^ (E + E) := mul_cap lu lz
    have m2 : v * z < 65536 ^ (E + E) := mul_cap lv lz
    have c3 : (((digs u).length + (digs z).length : Nat) : Int) < 200 := by omega
    have c4 : (((digs v).length + (digs z).length : Nat) : Int) < 200 := by omega
    refine ⟨digs (u * z), digs (v * z), fun k => ?_, by have := digs_len_le m1; omega, by have := digs_len_le m2; omega⟩
    rw [step k]
    simp only [h1, h2, c3, c4, h5, decide_true, cond_true, spec_l5Mul_eq N _ _ _ (cap2 hu) (cap2 hz) hN, spec_l5Mul_eq N _ _ _ (cap2 hv) (cap2 hz) hN]
  · refine ⟨a, b, fun k => ?_, by omega, by omega⟩
    rw [step k]
    cases h1 : natOkB a
    · rfl
    cases h2 : natOkB b
    · rfl
    by_cases h3 : a.length + (digs z).length < 200
    · by_cases h4 : b.length + (digs z).length < 200
      · have h5 : ¬ 0 < r := fun h5 => h ⟨h1, h2, h3, h4, h5⟩
        simp only [h5, decide_false, cond_false, cond_true]
        cases decide (((a.length + (digs z).length : Nat) : Int) < 200) <;> cases decide (((b.length + (digs z).length : Nat) : Int) < 200) <;> rfl
      · have c4 : ¬ (((b.length + (digs z).length : Nat) : Int) < 200) := by omega
        simp only [c4, decide_false, cond_false, cond_true]
        cases decide (((a.length + (digs z).length : Nat) : Int) < 200) <;> rfl
    · have c3 : ¬ (((a.length + (digs z).length : Nat) : Int) < 200) := by omega
      simp only [c3, decide_false, cond_false, cond_true]
theorem pure_FnNatGcd (x0 : List Int) (z0 : wfD (.sl (.int .u8)) x0) : ∃ N, laws_FnNatGcd N x0 some = some true := by
  refine ⟨cap + 1, ?_⟩
  have hN : cap < cap + 1 := by omega
  generalize cap + 1 = N at *
  obtain ⟨x, y, e, hx, hy⟩ := drawNatGcd_ok (α := Bool) N x0 (bytes_wf z0) hN
  rw [laws_FnNatGcd.eq]
  unfold laws_FnNatGcd.b
  by_cases h0 : (1048576 : Int) < ((x0.length : Nat) : Int)
  · simp [h0]
  have hcomm : natGcd y x = natGcd x y := by
    unfold natGcd
    rw [Nat.gcd_comm]
    by_cases h1 : natOkB x = true <;> by_cases h2 : natOkB y = true <;> simp [h1, h2]
  have hgl := natGcd_len x y
  simp only [h0, decide_false, cond_false, e, impl_NatGcd_eq N _ _ _ hN, spec_NatGcd_eq N _ _ _ hN, hcomm, beq_self_eq_true, Bool.not_true, laws_pwSame_eq N (natGcd x y).2 _ _ (show (natGcd x y).2.length ≤ 1048576 by omega) hN, decide_true]
  by_cases h : natOkB x = true ∧ natOkB y = true
  · obtain ⟨a, ha, rfl⟩ := natOkB_ex h.1
    obtain ⟨b, hb, rfl⟩ := natOkB_ex h.2
    have hg := gcd_cap ha hb
    simp only [natGcd_digs ha hb, Bool.not_true, cond_false, len_cast_zero]
    by_cases hz : a = 0 ∧ b = 0
    · obtain ⟨rfl, rfl⟩ := hz
      simp
    · have hg0 : Nat.gcd a b ≠ 0 := fun h => hz (Nat.gcd_eq_zero_iff.1 h)
      have d1 : a % Nat.gcd a b = 0 := Nat.mod_eq_zero_of_dvd (Nat.gcd_dvd_left a b)
      have d2 : b % Nat.gcd a b = 0 := Nat.mod_eq_zero_of_dvd (Nat.gcd_dvd_right a b)
      have hone : Nat.gcd (a / Nat.gcd a b) (b / Nat.gcd a b) = 1 := by
        rw [Nat.gcd_div (Nat.gcd_dvd_left a b) (Nat.gcd_dvd_right a b), Nat.div_self (Nat.pos_of_ne_zero hg0)]
      have l1 : (digs 1).length ≤ 1048576 := by rw [digs1]; simp
      have fin : ∀ k : Bool → Option Bool, impl_NatDiv N (digs a) (digs (Nat.gcd a b)) (fun x2648 x2649 x2650 => impl_NatDiv N (digs b) (digs (Nat.gcd a b)) (fun x2651 x2652 x2653 => bif !x2648 then k false else bif !x2651 then k false else bif decide ((0 : Int) < ((x2650.length : Nat) : Int)) then k false else
          bif decide ((0 : Int) < ((x2653.length : Nat) : Int)) then k false else impl_NatGcd N x2649 x2652 (fun x2660 x2661 => bif x2660 then laws_pwSame N x2661 [(1 : Int)] (fun x2663 => k x2663) else k false))) = k true := by
        intro k
        simp only [impl_NatDiv_eq N _ _ _ hN, natDiv_digs ha hg hg0, natDiv_digs hb hg hg0, d1, d2, Bool.not_true, cond_false, digs_zero, List.length_nil, cast_npos, impl_NatGcd_eq N _ _ _ hN, natGcd_digs (div_cap _ ha) (div_cap _ hb), hone, cond_true, ← digs1, laws_pwSame_eq N (digs 1) (digs 1) _ l1 hN, decide_true]
      simp only [impl_NatGcd_eq N _ _ _ hN] at fin
      by_cases ha0 : a = 0
      · have hb0 : b ≠ 0 := fun h => hz ⟨ha0, h⟩
        simp only [ha0, hb0, decide_true, decide_false, cond_true, cond_false]
        rw [ha0] at fin
        exact fin some
      · simp only [ha0, decide_false, cond_false]
        exact fin some
  · have : natGcd x y = (false, []) := by unfold natGcd; rw [if_neg h]
    simp [this]
end Go.Proofs.YtgabephijgjogaaAm
