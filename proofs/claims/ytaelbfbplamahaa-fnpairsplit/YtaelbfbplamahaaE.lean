/-
  The laws on pairs that are drawn.
-/
import Derived.Test.YtaelbfbplamahaaD
namespace Go.Proofs.YtaelbfbplamahaaAm
open Go
set_option linter.unusedVariables false
set_option linter.unusedSimpArgs false

theorem u8_wf {n : Int} (h : (Lit.int .u8 n).wf = true) : 0 ≤ n ∧ n ≤ 255 := by
  simp only [Lit.wf, decide_eq_true_eq, IntKind.has, IntKind.min, IntKind.max, IntKind.signed, IntKind.bits] at h
  simp at h
  omega
theorem i64_wf {n : Int} (h : (Lit.int .i64 n).wf = true) : -9223372036854775808 ≤ n ∧ n ≤ 9223372036854775807 := by
  simp only [Lit.wf, decide_eq_true_eq, IntKind.has, IntKind.min, IntKind.max, IntKind.signed, IntKind.bits] at h
  simp at h
  omega
theorem bytes_wf {a : List Int} (h : wfD (.sl (.int .u8)) a) : ∀ x ∈ a, 0 ≤ x ∧ x ≤ 255 := fun x hx => u8_wf (h.2 x hx)
/-- A pair that is ok: where it lies, and its steps. -/
theorem pairOk_ok {w : Int} {p : PairD} (h : pairOk w p = true) : (w = 32 ∨ w = 64) ∧ -top w ≤ p.1 ∧ p.1 < top w ∧ -top w < p.2.1 ∧ p.2.1 ≤ top w ∧ p.1 ≤ p.2.1 ∧ gapP p = p.2.1 - p.1 := by
  simp only [pairOk, bitOk, Bool.and_eq_true, decide_eq_true_eq] at h
  have ht := top_nonneg w
  refine ⟨h.1.1.1.1.1.1, by omega, by omega, by omega, by omega, by omega, ?_⟩
  unfold gapP gap
  rw [if_neg (by omega), wrap_u64 (by omega) (by omega)]
theorem pairOk_mk {w : Int} {a b : Int} (hw : w = 32 ∨ w = 64) (h1 : -top w ≤ a) (h2 : a < top w) (h3 : -top w < b) (h4 : b ≤ top w) (h5 : a ≤ b) : pairOk w (a, b, ()) = true := by
  simp only [pairOk, bitOk, Bool.and_eq_true, decide_eq_true_eq]
  omega
theorem middle_eq {w : Int} {p : PairD} (h : pairOk w p = true) : middle p.1 p.2.1 = p.1 + (p.2.1 - p.1) / 2 := by
  obtain ⟨_, h1, h2, h3, h4, h5, h6⟩ := pairOk_ok h
  have ht := top_nonneg w
  unfold middle
  have : gap p.1 p.2.1 = p.2.1 - p.1 := h6
  rw [this, Int.tdiv_eq_ediv_of_nonneg (by omega), wrap_i64 (by omega) (by omega)]
theorem gap_of {a b : Int} (h1 : a ≤ b) (h2 : b - a < 18446744073709551616) : gap a b = b - a := by
  unfold gap
  rw [if_neg (by omega), wrap_u64 (by omega) (by omega)]
theorem pure_FnPairSplit (x0 : List Int) (x1 : List Int) (z0 : wfD (.sl (.int .u8)) x0) (z1 : wfD (.sl (.int .u8)) x1) : ∃ N, laws_FnPairSplit N x0 x1 some = some true := by
  refine ⟨1048577, ?_⟩
  have hN : 1048576 < 1048577 := by omega
  rw [laws_FnPairSplit.eq]
  unfold laws_FnPairSplit.b
  by_cases h0 : (1048576 : Int) < ((x0.length : Nat) : Int)
  · simp [h0]
  by_cases h1 : (1048576 : Int) < ((x1.length : Nat) : Int)
  · simp [h0, h1]
  obtain ⟨w, p, e1, hw, hp⟩ := goodPair_ok 1048577 x0 (bytes_wf z0) hN
  obtain ⟨w2, q, e2, hw2, hq⟩ := goodPair_ok 1048577 x1 (bytes_wf z1) hN
  obtain ⟨_, b1, b2, b3, b4, b5, b6⟩ := pairOk_ok hp
  have ht := top_nonneg w
  have hg : gap p.1 p.2.1 = p.2.1 - p.1 := b6
  simp only [h0, h1, decide_false, cond_false, e1, impl_PairSplit_eq, spec_BitGap_eq, impl_BitGap_eq, hg]
  by_cases h2 : p.2.1 - p.1 < 2
  · have hs : pairSplit w p = (p0, p0, false) := by unfold pairSplit; rw [hg, if_neg (fun h => h.2 h2)]
    have h2' : ¬ 2 ≤ p.2.1 - p.1 := by omega
    simp [hs, h2']
  · have h2' : 2 ≤ p.2.1 - p.1 := by omega
    have hs : pairSplit w p = ((p.1, middle p.1 p.2.1, ()), (middle p.1 p.2.1, p.2.1, ()), true) := by unfold pairSplit; rw [hg, if_pos ⟨hp, h2⟩]
    rw [hs, middle_eq hp]
    have m1 : p.1 + 1 ≤ p.1 + (p.2.1 - p.1) / 2 := by omega
    have m2 : p.1 + (p.2.1 - p.1) / 2 < p.2.1 := by omega
    have hgm : (p.2.1 - p.1) / 2 = (p.1 + (p.2.1 - p.1) / 2) - p.1 := by omega
    have hhw : IntKind.u64.wrap ((p.2.1 - p.1).tdiv 2) = (p.2.1 - p.1) / 2 := by
      rw [Int.tdiv_eq_ediv_of_nonneg (by omega), wrap_u64 (by omega) (by omega)]
    generalize hm : p.1 + (p.2.1 - p.1) / 2 = m at *
    have o1 : pairOk w (p.1, m, ()) = true := pairOk_mk hw (by omega) (by omega) (by omega) (by omega) (by omega)
    have o2 : pairOk w (m, p.2.1, ()) = true := pairOk_mk hw (by omega) (by omega) (by omega) (by omega) (by omega)
    have i1 : pairIs (p.1, m, ()) p = true := by simp only [pairIs, Bool.and_eq_true, decide_eq_true_eq]; omega
    have i2 : pairIs (m, p.2.1, ()) p = true := by simp only [pairIs, Bool.and_eq_true, decide_eq_true_eq]; omega
    have g1 : gap p.1 m = m - p.1 := gap_of (by omega) (by omega)
    have g2 : gap m p.2.1 = p.2.1 - m := gap_of (by omega) (by omega)
    have c1 : ¬ ((p.2.1 - p.1) / 2 < m - p.1) := by omega
    have c2 : ¬ (p.2.1 - p.1 ≤ m - p.1) := by omega
    have c3 : ¬ (p.2.1 - p.1 ≤ p.2.1 - m) := by omega
    have c4 : IntKind.u64.wrap (m - p.1 + (p.2.1 - m)) = p.2.1 - p.1 := by rw [wrap_u64 (by omega) (by omega)]; omega
    simp only [h2', decide_true, beq_self_eq_true, Bool.not_true, cond_false, impl_PairOk_eq, o1, o2, impl_PairIs_eq, i1, i2, g1, g2, hhw, c1, c2, c3, decide_false, c4, e2]
    have key : pairIs (q.1, q.1, ()) p = (pairIs (q.1, q.1, ()) (p.1, m, ()) || pairIs (q.1, q.1, ()) (m, p.2.1, ())) := by
      rw [Bool.eq_iff_iff]
      simp only [pairIs, Bool.and_eq_true, Bool.or_eq_true, decide_eq_true_eq]
      omega
    rw [key]
    cases pairIs (q.1, q.1, ()) (p.1, m, ()) <;> simp
end Go.Proofs.YtaelbfbplamahaaAm
