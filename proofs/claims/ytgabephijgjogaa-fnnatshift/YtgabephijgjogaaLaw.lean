/-
  For every input the law FnNatShift returns true, and each argument reads afterwards as it read before.
-/
import Derived.Test.YtgabephijgjogaaRows
import Derived.Test.YtgabephijgjogaaChk
import Derived.Test.YtgabephijgjogaaHa
namespace Go.Proofs.Ytgabephijgjogaa.fnNatShift
open Go Go.Proofs.YtgabephijgjogaaAm
open Go.ChangeShapes Go.WideShapes Go.ChangeAt Go.RowKit
set_option linter.unusedVariables false
set_option linter.unusedSimpArgs false
theorem own : ownKnob Try.prog.godebug = none := by kernel_rfl
theorem laidOut : laidOutB Try.prog = true := by kernel_rfl
theorem runs (N : Nat) (x0 : List Int) : (mkCallee false plaws_FnNatShift (glaws_FnNatShift N)).run [.iv (.sl (.int .u8)) x0] [] isTrue = laws_FnNatShift N x0 some := by kernel_rfl
theorem walk (v0 : Value) (W : World) (x0 : List Int) (z0 : wfD (.sl (.int .u8)) x0) (y0 : HVR (cx0 W) (.iv (.sl (.int .u8)) x0) v0) : Calls Try.prog 9 #[v0] W fun e W' => e = .returned (.bool true) ∧ Below W.heap.size W W' := by
  obtain ⟨N, h⟩ := pure_FnNatShift x0 z0
  exact law_calls (vs := [v0]) Try.func9 (by kernel_rfl) (by kernel_rfl) (olaws_FnNatShift N) (args := [.iv (.sl (.int .u8)) x0]) ⟨_, _, rfl, y0, rfl⟩ ((runs N x0).trans h)
set_option maxRecDepth 100000 in
theorem lifted (os : Os) (started : os.Started) (H : Type) (enc : TypeId × Value → H) :
    ReturnsInHanded {} Try.checked os 9 .any (Rows.fnNatShiftSpec.pre6 enc Try.prog Try.f9 Rows.fnNatShiftRow.domain false) (Rows.fnNatShiftSpec.post enc Try.prog Try.f9 false true false false) := by
  refine returnsInHanded_of_change_sized (C := Try.checked) own started (by kernel_rfl) Try.func9
    (ChangeSpec.witness6 (enc := enc) (C := Try.checked) false ⟨#[], #[.slice none 0 0], []⟩ 8 (by kernel_rfl) (by kernel_rfl) (by kernel_rfl) (by kernel_rfl)) ?_
  intro W base args ds gs before hval0 hW hcnd hsz0 _
  have hval : ∀ (j : Nat) t v, Try.f9.params[j]? = some t → args[j]? = some v → Value.okWide Try.prog W .any base t v := hval0
  have hW' := hW
  obtain ⟨p, q, hA0, hV, rfl, hfz, hnd⟩ := hW
  have hA : DataW.TrodAll enc Try.prog W 0 (fun _ => true) true Try.f9.params.toList args.toList ds p := hA0
  rw [Try.params9] at hA hval
  obtain ⟨v0, vs0, d0, ds0, p0, q0, hargs, rfl, rfl, h0, r0⟩ := trodAll_cons hA
  obtain ⟨rfl, rfl, rfl⟩ := trodAll_nil r0
  obtain rfl : args = #[v0] := by cases args; simp_all
  obtain ⟨rfl, rfl⟩ := trodVars_none hV
  have k0 := h0
  have lt0 : ∀ x ∈ p0, x.block < W.heap.size := by obtain ⟨m, hm⟩ := k0; exact DataW.trod_lt m _ _ _ hm
  obtain ⟨x0, y0, z0⟩ := arg_ok (t := (.sl (.int .u8))) (by kernel_rfl) (hval 0 22 v0 rfl rfl) h0
  clear hA0 hval0 hsz0
  refine (walk v0 W x0 z0 y0 ).mono fun e W' ⟨he, bel⟩ => ?_
  subst he
  exact ⟨_, rfl, _, _, _, [], _, [], hW', trodAll_mk1 (shut_bool Try.underlying4 _), (trodAll_cons_mk (Below.trod laidOut (by kernel_rfl) (of_decide_eq_true (by kernel_rfl)) k0 bel lt0) trodAll_mk0), rfl, bel.frame _, fun h => by cases h⟩
theorem over : Rows.fnNatShiftRow.holds Try.pinned (OpenSpec.ofChange Rows.fnNatShiftSpec) :=
  OpenClaim.holds_of_wide 9 Try.f9 rfl rfl rfl rfl rfl rfl rfl ⟨rfl, rfl, rfl, rfl, rfl⟩ rfl rfl rfl rfl rfl (by kernel_rfl) Try.func9 (by kernel_rfl)
    (of_decide_eq_true (by kernel_rfl)) (by unfold Func.isWrapper; first | (rw [if_pos (by decide +kernel)]; kernel_rfl) | (rw [if_neg (by decide +kernel)]; exact ⟨rfl, rfl⟩))
    (fun os started H enc _ => lifted os started H enc)
end Go.Proofs.Ytgabephijgjogaa.fnNatShift
namespace Go.Proofs.Ytgabephijgjogaa
/-- The claim. -/
theorem fnNatShift_holds : Rows.FnNatShiftSaid := fnNatShift.over
end Go.Proofs.Ytgabephijgjogaa
