/-
  The laws on pairs that are drawn.
-/
import Derived.Test.YtbaeipjjijdgiaaD
namespace Go.Proofs.YtbaeipjjijdgiaaAm
open Go
set_option linter.unusedVariables false
set_option linter.unusedSimpArgs false

theorem u8_wf {n : Int} (h : (Lit.int .u8 n).wf = true) : 0 ≤ n ∧ n ≤ 255 := by
  simp only [Lit.wf, decide_eq_true_eq, IntKind.has, IntKind.min, IntKind.max, IntKind.signed, IntKind.bits] at h
  simp at h
  omega
theorem i64_wf {n : Int} (h : (Lit.int .i64 n).wf = true) : -9223372036854775808 ≤ n ∧ n ≤ 9223372036854775807 := by
  simp only [Lit.wf, decide_eq_true_eq, IntKind.has, IntKind.min, IntKind.max, IntKind.signed, IntKind.bits] at h
  simp at h
  omega
theorem bytes_wf {a : List Int} (h : wfD (.sl (.int .u8)) a) : ∀ x ∈ a, 0 ≤ x ∧ x ≤ 255 := fun x hx => u8_wf (h.2 x hx)
/-- A pair that is ok: where it lies, and its steps. -/
theorem pairOk_ok {w : Int} {p : PairD} (h : pairOk w p = true) : (w = 32 ∨ w = 64) ∧ -top w ≤ p.1 ∧ p.1 < top w ∧ -top w < p.2.1 ∧ p.2.1 ≤ top w ∧ p.1 ≤ p.2.1 ∧ gapP p = p.2.1 - p.1 := by
  simp only [pairOk, bitOk, Bool.and_eq_true, decide_eq_true_eq] at h
  have ht := top_nonneg w
  refine ⟨h.1.1.1.1.1.1, by omega, by omega, by omega, by omega, by omega, ?_⟩
  unfold gapP gap
  rw [if_neg (by omega), wrap_u64 (by omega) (by omega)]
theorem pairOk_mk {w : Int} {a b : Int} (hw : w = 32 ∨ w = 64) (h1 : -top w ≤ a) (h2 : a < top w) (h3 : -top w < b) (h4 : b ≤ top w) (h5 : a ≤ b) : pairOk w (a, b, ()) = true := by
  simp only [pairOk, bitOk, Bool.and_eq_true, decide_eq_true_eq]
  omega
theorem middle_eq {w : Int} {p : PairD} (h : pairOk w p = true) : middle p.1 p.2.1 = p.1 + (p.2.1 - p.1) / 2 := by
  obtain ⟨_, h1, h2, h3, h4, h5, h6⟩ := pairOk_ok h
  have ht := top_nonneg w
  unfold middle
  have : gap p.1 p.2.1 = p.2.1 - p.1 := h6
  rw [this, Int.tdiv_eq_ediv_of_nonneg (by omega), wrap_i64 (by omega) (by omega)]
theorem gap_of {a b : Int} (h1 : a ≤ b) (h2 : b - a < 18446744073709551616) : gap a b = b - a := by
  unfold gap
  rw [if_neg (by omega), wrap_u64 (by omega) (by omega)]
theorem width_ok (N : Nat) (s : RdD) (c : Nat) (h : RdOk c s) (hc : c ≤ 600000) :
    ∃ w s', (∀ {α : Type} (k : Int → RdD → Option α), spec_l31Rd_width N s k = k w s') ∧ RdOk (c + 2) s' := by
  obtain ⟨r, s1, e1, h1, r0, r1⟩ := pick_ok N 32 s c h (by omega)
  by_cases h2 : r < 15
  · refine ⟨32, s1, fun k => ?_, h1.mono (by omega)⟩
    rw [spec_l31Rd_width.eq]
    unfold spec_l31Rd_width.b
    simp only [e1, h2, decide_true, cond_true]
  by_cases h3 : r < 30
  · refine ⟨64, s1, fun k => ?_, h1.mono (by omega)⟩
    rw [spec_l31Rd_width.eq]
    unfold spec_l31Rd_width.b
    simp only [e1, h2, h3, decide_true, decide_false, cond_true, cond_false]
  · obtain ⟨x, s2, e2, g1, x0, x1⟩ := pick_ok N 4 s1 _ h1 (by omega)
    have x1 := x1 (by omega)
    have hx : ¬ x < 0 := by omega
    have hlen : x.toNat < [(0 : Int), 63, 16, -64].length := by simp; omega
    refine ⟨[(0 : Int), 63, 16, -64][x.toNat], s2, fun k => ?_, g1⟩
    rw [spec_l31Rd_width.eq]
    unfold spec_l31Rd_width.b
    simp only [e1, e2, h2, h3, hx, decide_false, cond_false, decide_eq_true hlen, cond_true, List.getElem?_eq_getElem hlen]
end Go.Proofs.YtbaeipjjijdgiaaAm
