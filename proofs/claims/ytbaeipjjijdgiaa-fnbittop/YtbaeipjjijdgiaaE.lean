/-
  The laws on pairs that are drawn.
-/
import Derived.Test.YtbaeipjjijdgiaaD
namespace Go.Proofs.YtbaeipjjijdgiaaAm
open Go
set_option linter.unusedVariables false
set_option linter.unusedSimpArgs false

theorem u8_wf {n : Int} (h : (Lit.int .u8 n).wf = true) : 0 ≤ n ∧ n ≤ 255 := by
 simp only [Lit.wf, decide_eq_true_eq, IntKind.has, IntKind.min, IntKind.max, IntKind.signed, IntKind.bits] at h
 simp at h
 omega
theorem bytes_wf {a : List Int} (h : wfD (.sl (.int .u8)) a) : ∀ x ∈ a, 0 ≤ x ∧ x ≤ 255 := fun x hx => u8_wf (h.2 x hx)
theorem pairOk_ok {w : Int} {p : PairD} (h : pairOk w p = true) : (w = 32 ∨ w = 64) ∧ -top w ≤ p.1 ∧ p.1 < top w ∧ -top w < p.2.1 ∧ p.2.1 ≤ top w ∧ p.1 ≤ p.2.1 ∧ gapP p = p.2.1 - p.1 := by
 simp only [pairOk, bitOk, Bool.and_eq_true, decide_eq_true_eq] at h
 have ht := top_nonneg w
 refine ⟨h.1.1.1.1.1.1, by omega, by omega, by omega, by omega, by omega, ?_⟩
 unfold gapP gap
 rw [if_neg (by omega), wrap_u64 (by omega) (by omega)]
theorem pairOk_mk {w : Int} {a b : Int} (hw : w = 32 ∨ w = 64) (h1 : -top w ≤ a) (h2 : a < top w) (h3 : -top w < b) (h4 : b ≤ top w) (h5 : a ≤ b) : pairOk w (a, b, ()) = true := by
 simp only [pairOk, bitOk, Bool.and_eq_true, decide_eq_true_eq]
 omega
theorem middle_eq {w : Int} {p : PairD} (h : pairOk w p = true) : middle p.1 p.2.1 = p.1 + (p.2.1 - p.1) / 2 := by
 obtain ⟨_, h1, h2, h3, h4, h5, h6⟩ := pairOk_ok h
 have ht := top_nonneg w
 unfold middle
 have : gap p.1 p.2.1 = p.2.1 - p.1 := h6
 rw [this, Int.tdiv_eq_ediv_of_nonneg (by omega), wrap_i64 (by omega) (by omega)]
end Go.Proofs.YtbaeipjjijdgiaaAm
