/-
  The readers of fractions: they come to an end, and what they tell is a fraction in lowest terms; the laws' own comparisons.
-/
import Derived.Test.YtnhbcpmmdblkjaaGreatDoorY
import Derived.Test.YtnhbcpmmdblkjaaGreatDoorK
namespace Go.Proofs.YtnhbcpmmdblkjaaGreatDoorAm
open Go
set_option linter.unusedVariables false
set_option linter.unusedSimpArgs false

theorem fracOkB_mk {s : Bool} {a b : Nat} (ha : a < 65536 ^ 256) (hb : b < 65536 ^ 256) (hb0 : b ≠ 0) (hg : Nat.gcd a b = 1) (hs : s = true → a ≠ 0) : fracOkB (s, (digs a, (digs b, ()))) = true := by
  have h3 : (digs b).length ≠ 0 := fun e => hb0 (digs_len_zero.1 e)
  simp only [fracOkB, natOkB_digs ha, natOkB_digs hb, val_digs, Int.toNat_natCast, hg, decide_true, Bool.and_true, Bool.true_and]
  cases s
  · simpa using h3
  · have h4 : (digs a).length ≠ 0 := fun e => hs rfl (digs_len_zero.1 e)
    simp [h3, h4]
theorem gcd_low {a b : Nat} (h : 0 < Nat.gcd a b) : Nat.gcd (a / Nat.gcd a b) (b / Nat.gcd a b) = 1 := by
  rw [Nat.gcd_div (Nat.gcd_dvd_left a b) (Nat.gcd_dvd_right a b), Nat.div_self h]
theorem mkF_ok {s : Bool} {a b : Nat} (hb : b ≠ 0) (h : (mkF s a b).2.1 = true) : fracOkB ((mkF s a b).1, ((mkF s a b).2.2.1, ((mkF s a b).2.2.2, ()))) = true := by
  have hg0 : 0 < Nat.gcd a b := Nat.gcd_pos_of_pos_right a (Nat.pos_of_ne_zero hb)
  have hgb := Nat.gcd_le_right a (Nat.pos_of_ne_zero hb)
  unfold mkF at *
  split
  next hl =>
    refine fracOkB_mk (digs_lt_pow hl.1) (digs_lt_pow hl.2) ?_ (gcd_low hg0) ?_
    · have := Nat.div_pos hgb hg0; omega
    · intro e
      simp only [Bool.and_eq_true, decide_eq_true_eq] at e
      have := Nat.div_pos (Nat.gcd_le_left b (Nat.pos_of_ne_zero e.2)) hg0
      omega
  next hl => rw [if_neg hl] at h; simp [bad4] at h
theorem fracOf_ok {s : Bool} {x y : List Int} (h : (fracOf s x y).2.1 = true) : fracOkB ((fracOf s x y).1, ((fracOf s x y).2.2.1, ((fracOf s x y).2.2.2, ()))) = true := by
  unfold fracOf at *
  split
  next hl =>
    rw [if_pos hl] at h
    obtain ⟨b, hb, rfl⟩ := natOkB_ex hl.2.1
    refine mkF_ok ?_ h
    rw [val_digs, Int.toNat_natCast]
    exact fun e => hl.2.2 (digs_len_zero.2 e)
  next hl => rw [if_neg hl] at h; simp [bad4] at h
theorem spec_FracInt_eq {α : Type} (N : Nat) (n : Int) (k : Bool → List Int → List Int → Option α) (h0 : -9223372036854775808 ≤ n) (h1 : n ≤ 9223372036854775807) (hN : cap < N) :
    spec_FracInt N n k = k (decide (n < 0)) (digs n.natAbs) (digs 1) := by
  rw [spec_FracInt.eq]
  unfold spec_FracInt.b
  rw [spec_FracInt_J2.eq]
  unfold spec_FracInt_J2.b
  by_cases hn : n < 0
  · have e : IntKind.u64.wrap (0 - IntKind.u64.wrap n) = ((n.natAbs : Nat) : Int) := by rw [u64w, u64w]; omega
    simp only [hn, decide_true, cond_true, e, spec_NatOf_eq N n.natAbs _ (show n.natAbs < 18446744073709551616 by omega) hN, digs1]
  · have e : IntKind.u64.wrap n = ((n.natAbs : Nat) : Int) := by rw [u64w]; omega
    simp only [hn, decide_false, cond_false, e, spec_NatOf_eq N n.natAbs _ (show n.natAbs < 18446744073709551616 by omega) hN, digs1]
theorem fracInt_ok {n : Int} (h0 : -9223372036854775808 ≤ n) (h1 : n ≤ 9223372036854775807) : fracOkB (decide (n < 0), (digs n.natAbs, (digs 1, ()))) = true := by
  have hp : ∀ x : Nat, x < 18446744073709551616 → x < 65536 ^ 256 := fun x hx => Nat.lt_of_lt_of_le (show x < 65536 ^ 4 by omega) (pow_up (by omega))
  refine fracOkB_mk (hp _ (by omega)) (hp _ (by omega)) (by omega) (Nat.gcd_one_right _) ?_
  intro e
  simp only [decide_eq_true_eq] at e
  omega
theorem good_J2 {α : Type} (N : Nat) (s : RdD) (b : Bool) (x : Nat) (t u : List Int) (c : Nat) (h : RdOk c s) (hc : c ≤ 900000) :
    ∃ (y : Nat) (s' : RdD), (∀ (k : RdD → Bool → List Int → List Int → List Int → Option α), spec_l32Rd_good_J2 N s b (digs x) t u k = k s' b (digs y) t u) ∧ y ≠ 0 ∧ RdOk (c + 2) s' := by
  have fin : ∀ r : Int, 0 ≤ r → r < 9 → [IntKind.i64.wrap (1 + r)] = digs (1 + r).toNat := fun r h0 h1 => by
    rw [wrap_i64 (by omega) (by omega), digs_one (by omega) (by omega)]
    congr 1; omega
  by_cases h0 : x = 0
  · obtain ⟨r, s1, e1, q1, p1, p2⟩ := pick32_ok N 9 s c h (by omega)
    have p2 := p2 (by omega)
    refine ⟨(1 + r).toNat, s1, fun k => ?_, by omega, q1.mono (by omega)⟩
    rw [spec_l32Rd_good_J2.eq]
    unfold spec_l32Rd_good_J2.b
    simp only [len_cast_zero, h0, decide_true, cond_true, e1, fin r p1 p2]
  · obtain ⟨r, s1, e1, q1, p1, p2⟩ := pick32_ok N 3 s c h (by omega)
    by_cases hr : r = 0
    · obtain ⟨r2, s2, e2, q2, p3, p4⟩ := pick32_ok N 9 s1 (c + 1) q1 (by omega)
      have p4 := p4 (by omega)
      refine ⟨(1 + r2).toNat, s2, fun k => ?_, by omega, q2.mono (by omega)⟩
      rw [spec_l32Rd_good_J2.eq]
      unfold spec_l32Rd_good_J2.b
      simp only [len_cast_zero, h0, decide_false, cond_false, e1, hr, decide_true, cond_true, e2, fin r2 p3 p4]
    · refine ⟨x, s1, fun k => ?_, h0, q1.mono (by omega)⟩
      rw [spec_l32Rd_good_J2.eq]
      unfold spec_l32Rd_good_J2.b
      simp only [len_cast_zero, h0, decide_false, cond_false, e1, hr]
theorem good_ok {α : Type} (N : Nat) (s : RdD) (c : Nat) (h : RdOk c s) (hc : c ≤ 700000) (hN : cap < N) :
    ∃ (f : FracD) (s' : RdD), (∀ (k : Bool → RdD → List Int → List Int → Option α), spec_l32Rd_good N s k = k f.1 s' f.2.1 f.2.2.1) ∧ fracOkB f = true ∧ RdOk (c + 1300) s' := by
  obtain ⟨x, s1, e1, hx, q1⟩ := nat_ok (α := α) N s c h (by omega) hN
  obtain ⟨y, s2, e2, hy, q2⟩ := good_J2 (α := α) N s1 false x [] [] (c + 600) q1 (by omega)
  obtain ⟨r, s3, e3, q3, _, _⟩ := pick32_ok N 2 s2 (c + 602) q2 (by omega)
  obtain ⟨z, s4, e4, hz, q4⟩ := nat_ok (α := α) N s3 (c + 603) q3 (by omega) hN
  cases hok : (fracOf (decide (r = 0)) (digs z) (digs y)).2.1
  · obtain ⟨r5, s5, e5, q5, p1, p2⟩ := pick32_ok N 9 s4 (c + 1203) q4 (by omega)
    have p2 := p2 (by omega)
    have w : IntKind.i64.wrap (r5 - 4) = r5 - 4 := wrap_i64 (by omega) (by omega)
    refine ⟨(decide (r5 - 4 < 0), (digs (r5 - 4).natAbs, (digs 1, ()))), s5, fun k => ?_, fracInt_ok (by omega) (by omega), q5.mono (by omega)⟩
    rw [spec_l32Rd_good.eq]
    unfold spec_l32Rd_good.b
    simp only [e1, e2, e3, e4, spec_FracOf_eq N _ _ _ _ hN, hok, Bool.not_false, cond_true, e5, w, spec_FracInt_eq N _ _ (show -9223372036854775808 ≤ r5 - 4 by omega) (show r5 - 4 ≤ 9223372036854775807 by omega) hN]
  · refine ⟨_, s4, fun k => ?_, fracOf_ok hok, q4.mono (by omega)⟩
    rw [spec_l32Rd_good.eq]
    unfold spec_l32Rd_good.b
    simp only [e1, e2, e3, e4, spec_FracOf_eq N _ _ _ _ hN, hok, Bool.not_true, cond_false]
theorem laws_pwFrac_eq {α : Type} (N : Nat) (a b : FracD) (k : Bool → Option α) (h1 : a.2.1.length ≤ 1048576) (h2 : a.2.2.1.length ≤ 1048576) (hN : cap < N) : laws_pwFrac N a b k = k (decide (a = b)) := by
  obtain ⟨s, x, y, u⟩ := a
  obtain ⟨t, z, w, v⟩ := b
  rw [laws_pwFrac.eq]
  unfold laws_pwFrac.b
  simp only [laws_pwSame_eq N x z _ h1 hN, laws_pwSame_eq N y w _ h2 hN]
  cases s <;> cases t <;> by_cases e2 : x = z <;> by_cases e3 : y = w <;> simp [e2, e3]
end Go.Proofs.YtnhbcpmmdblkjaaGreatDoorAm
