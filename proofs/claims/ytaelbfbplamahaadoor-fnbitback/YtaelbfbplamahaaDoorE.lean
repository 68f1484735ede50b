/-
  The laws on pairs that are drawn.
-/
import Derived.Test.YtaelbfbplamahaaDoorD
namespace Go.Proofs.YtaelbfbplamahaaDoorAm
open Go
set_option linter.unusedVariables false
set_option linter.unusedSimpArgs false

theorem u8_wf {n : Int} (h : (Lit.int .u8 n).wf = true) : 0 ≤ n ∧ n ≤ 255 := by
  simp only [Lit.wf, decide_eq_true_eq, IntKind.has, IntKind.min, IntKind.max, IntKind.signed, IntKind.bits] at h
  simp at h
  omega
theorem bytes_wf {a : List Int} (h : wfD (.sl (.int .u8)) a) : ∀ x ∈ a, 0 ≤ x ∧ x ≤ 255 := fun x hx => u8_wf (h.2 x hx)
theorem width_ok (N : Nat) (s : RdD) (c : Nat) (h : RdOk c s) (hc : c ≤ 600000) :
    ∃ w s', (∀ {α : Type} (k : Int → RdD → Option α), spec_l31Rd_width N s k = k w s') ∧ RdOk (c + 2) s' := by
  obtain ⟨r, s1, e1, h1, r0, r1⟩ := pick_ok N 32 s c h (by omega)
  by_cases h2 : r < 15
  · refine ⟨32, s1, fun k => ?_, h1.mono (by omega)⟩
    rw [spec_l31Rd_width.eq]
    unfold spec_l31Rd_width.b
    simp only [e1, h2, decide_true, cond_true]
  by_cases h3 : r < 30
  · refine ⟨64, s1, fun k => ?_, h1.mono (by omega)⟩
    rw [spec_l31Rd_width.eq]
    unfold spec_l31Rd_width.b
    simp only [e1, h2, h3, decide_true, decide_false, cond_true, cond_false]
  · obtain ⟨x, s2, e2, g1, x0, x1⟩ := pick_ok N 4 s1 _ h1 (by omega)
    have x1 := x1 (by omega)
    have hx : ¬ x < 0 := by omega
    have hlen : x.toNat < [(0 : Int), 63, 16, -64].length := by simp; omega
    refine ⟨[(0 : Int), 63, 16, -64][x.toNat], s2, fun k => ?_, g1⟩
    rw [spec_l31Rd_width.eq]
    unfold spec_l31Rd_width.b
    simp only [e1, e2, h2, h3, hx, decide_false, cond_false, decide_eq_true hlen, cond_true, List.getElem?_eq_getElem hlen]
end Go.Proofs.YtaelbfbplamahaaDoorAm
