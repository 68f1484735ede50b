/-
  The laws on pairs that are drawn.
-/
import Derived.Test.YtgabephijgjogaaD
namespace Go.Proofs.YtgabephijgjogaaAm
open Go
set_option linter.unusedVariables false
set_option linter.unusedSimpArgs false

theorem u8_wf {n : Int} (h : (Lit.int .u8 n).wf = true) : 0 ≤ n ∧ n ≤ 255 := by
  simp only [Lit.wf, decide_eq_true_eq, IntKind.has, IntKind.min, IntKind.max, IntKind.signed, IntKind.bits] at h
  simp at h
  omega
theorem bytes_wf {a : List Int} (h : wfD (.sl (.int .u8)) a) : ∀ x ∈ a, 0 ≤ x ∧ x ≤ 255 := fun x hx => u8_wf (h.2 x hx)
end Go.Proofs.YtgabephijgjogaaAm
