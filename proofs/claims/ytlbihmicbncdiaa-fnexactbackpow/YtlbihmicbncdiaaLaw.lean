/-
  For every input the law FnExactBackPow returns true, and each argument reads afterwards as it read before.
-/
import Derived.Test.YtlbihmicbncdiaaRows
import Derived.Test.YtlbihmicbncdiaaChkb
import Derived.Test.YtlbihmicbncdiaaCe
namespace Go.Proofs.Ytlbihmicbncdiaa.fnExactBackPow
open Go Go.Proofs.YtlbihmicbncdiaaAm
open Go.ChangeShapes Go.WideShapes Go.ChangeAt Go.RowKit
set_option linter.unusedVariables false
set_option linter.unusedSimpArgs false
theorem own : ownKnob Try.prog.godebug = none := by kernel_rfl
theorem laidOut : laidOutB Try.prog = true := by kernel_rfl
theorem runs (N : Nat) (x0 : Int) (x1 : Bool × Int × Int × Unit) (x2 : Int) (x3 : Bool × Int × Int × Unit) : (mkCallee false plaws_FnExactBackPow (glaws_FnExactBackPow N)).run [.iv (.int .i64) x0, .iv (.pair .bool (.pair (.int .i64) (.pair (.int .i64) .unit))) x1, .iv (.int .i64) x2, .iv (.pair .bool (.pair (.int .i64) (.pair (.int .i64) .unit))) x3] [] isTrue = laws_FnExactBackPow N x0 x1 x2 x3 some := by kernel_rfl
theorem walk (v0 v1 v2 v3 : Value) (W : World) (x0 : Int) (x1 : Bool × Int × Int × Unit) (x2 : Int) (x3 : Bool × Int × Int × Unit) (z0 : wfD (.int .i64) x0) (z1 : wfD (.pair .bool (.pair (.int .i64) (.pair (.int .i64) .unit))) x1) (z2 : wfD (.int .i64) x2) (z3 : wfD (.pair .bool (.pair (.int .i64) (.pair (.int .i64) .unit))) x3) (y0 : HVR (cx0 W) (.iv (.int .i64) x0) v0) (y1 : HVR (cx0 W) (.iv (.pair .bool (.pair (.int .i64) (.pair (.int .i64) .unit))) x1) v1) (y2 : HVR (cx0 W) (.iv (.int .i64) x2) v2) (y3 : HVR (cx0 W) (.iv (.pair .bool (.pair (.int .i64) (.pair (.int .i64) .unit))) x3) v3) : Calls Try.prog 8 #[v0, v1, v2, v3] W fun e W' => e = .returned (.bool true) ∧ Below W.heap.size W W' := by
  obtain ⟨N, h⟩ := pure_FnExactBackPow x0 x1 x2 x3 
  exact law_calls (vs := [v0, v1, v2, v3]) Try.func8 (by kernel_rfl) (by kernel_rfl) (olaws_FnExactBackPow N) (args := [.iv (.int .i64) x0, .iv (.pair .bool (.pair (.int .i64) (.pair (.int .i64) .unit))) x1, .iv (.int .i64) x2, .iv (.pair .bool (.pair (.int .i64) (.pair (.int .i64) .unit))) x3]) ⟨_, _, rfl, y0, _, _, rfl, y1, _, _, rfl, y2, _, _, rfl, y3, rfl⟩ ((runs N x0 x1 x2 x3).trans h)
set_option maxRecDepth 100000 in
theorem lifted (os : Os) (started : os.Started) (H : Type) (enc : TypeId × Value → H) :
    ReturnsInHanded {} Try.checked os 8 .any (Rows.fnExactBackPowSpec.pre6 enc Try.prog Try.f8 Rows.fnExactBackPowRow.domain false) (Rows.fnExactBackPowSpec.post enc Try.prog Try.f8 false true false false) := by
  refine returnsInHanded_of_change_sized (C := Try.checked) own started (by kernel_rfl) Try.func8
    (ChangeSpec.witness6 (enc := enc) (C := Try.checked) false ⟨#[], #[.int .i64 0, .agg #[.bool false, .int .i64 0, .int .i64 0], .int .i64 0, .agg #[.bool false, .int .i64 0, .int .i64 0]], []⟩ 8 (by kernel_rfl) (by kernel_rfl) (by kernel_rfl) (by kernel_rfl)) ?_
  intro W base args ds gs before hval0 hW hcnd hsz0 _
  have hval : ∀ (j : Nat) t v, Try.f8.params[j]? = some t → args[j]? = some v → Value.okWide Try.prog W .any base t v := hval0
  have hW' := hW
  obtain ⟨p, q, hA0, hV, rfl, hfz, hnd⟩ := hW
  have hA : DataW.TrodAll enc Try.prog W 0 (fun _ => true) true Try.f8.params.toList args.toList ds p := hA0
  rw [Try.params8] at hA hval
  obtain ⟨v0, vs0, d0, ds0, p0, q0, hargs, rfl, rfl, h0, r0⟩ := trodAll_cons hA
  obtain ⟨v1, vs1, d1, ds1, p1, q1, rfl, rfl, rfl, h1, r1⟩ := trodAll_cons r0
  obtain ⟨v2, vs2, d2, ds2, p2, q2, rfl, rfl, rfl, h2, r2⟩ := trodAll_cons r1
  obtain ⟨v3, vs3, d3, ds3, p3, q3, rfl, rfl, rfl, h3, r3⟩ := trodAll_cons r2
  obtain ⟨rfl, rfl, rfl⟩ := trodAll_nil r3
  obtain rfl : args = #[v0, v1, v2, v3] := by cases args; simp_all
  obtain ⟨rfl, rfl⟩ := trodVars_none hV
  have k0 := h0
  have lt0 : ∀ x ∈ p0, x.block < W.heap.size := by obtain ⟨m, hm⟩ := k0; exact DataW.trod_lt m _ _ _ hm
  obtain ⟨x0, y0, z0⟩ := arg_ok (t := (.int .i64)) (by kernel_rfl) (hval 0 3 v0 rfl rfl) h0
  have k1 := h1
  have lt1 : ∀ x ∈ p1, x.block < W.heap.size := by obtain ⟨m, hm⟩ := k1; exact DataW.trod_lt m _ _ _ hm
  obtain ⟨x1, y1, z1⟩ := arg_ok (t := (.pair .bool (.pair (.int .i64) (.pair (.int .i64) .unit)))) (by kernel_rfl) (hval 1 31 v1 rfl rfl) h1
  have k2 := h2
  have lt2 : ∀ x ∈ p2, x.block < W.heap.size := by obtain ⟨m, hm⟩ := k2; exact DataW.trod_lt m _ _ _ hm
  obtain ⟨x2, y2, z2⟩ := arg_ok (t := (.int .i64)) (by kernel_rfl) (hval 2 3 v2 rfl rfl) h2
  have k3 := h3
  have lt3 : ∀ x ∈ p3, x.block < W.heap.size := by obtain ⟨m, hm⟩ := k3; exact DataW.trod_lt m _ _ _ hm
  obtain ⟨x3, y3, z3⟩ := arg_ok (t := (.pair .bool (.pair (.int .i64) (.pair (.int .i64) .unit)))) (by kernel_rfl) (hval 3 31 v3 rfl rfl) h3
  clear hA0 hval0 hsz0
  refine (walk v0 v1 v2 v3 W x0 x1 x2 x3 z0 z1 z2 z3 y0 y1 y2 y3 ).mono fun e W' ⟨he, bel⟩ => ?_
  subst he
  exact ⟨_, rfl, _, _, _, [], _, [], hW', trodAll_mk1 (shut_bool Try.underlying4 _), (trodAll_cons_mk (Below.trod laidOut (by kernel_rfl) (of_decide_eq_true (by kernel_rfl)) k0 bel lt0) (trodAll_cons_mk (Below.trod laidOut (by kernel_rfl) (of_decide_eq_true (by kernel_rfl)) k1 bel lt1) (trodAll_cons_mk (Below.trod laidOut (by kernel_rfl) (of_decide_eq_true (by kernel_rfl)) k2 bel lt2) (trodAll_cons_mk (Below.trod laidOut (by kernel_rfl) (of_decide_eq_true (by kernel_rfl)) k3 bel lt3) trodAll_mk0)))), rfl, bel.frame _, fun h => by cases h⟩
theorem over : Rows.fnExactBackPowRow.holds Try.pinned (OpenSpec.ofChange Rows.fnExactBackPowSpec) :=
  OpenClaim.holds_of_wide 8 Try.f8 rfl rfl rfl rfl rfl rfl rfl ⟨rfl, rfl, rfl, rfl, rfl⟩ rfl rfl rfl rfl rfl (by kernel_rfl) Try.func8 (by kernel_rfl)
    (of_decide_eq_true (by kernel_rfl)) (by unfold Func.isWrapper; first | (rw [if_pos (by decide +kernel)]; kernel_rfl) | (rw [if_neg (by decide +kernel)]; exact ⟨rfl, rfl⟩))
    (fun os started H enc _ => lifted os started H enc)
end Go.Proofs.Ytlbihmicbncdiaa.fnExactBackPow
namespace Go.Proofs.Ytlbihmicbncdiaa
/-- The claim. -/
theorem fnExactBackPow_holds : Rows.FnExactBackPowSaid := fnExactBackPow.over
end Go.Proofs.Ytlbihmicbncdiaa
