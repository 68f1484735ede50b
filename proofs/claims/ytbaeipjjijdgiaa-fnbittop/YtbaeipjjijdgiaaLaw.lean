/-
  For every input the law FnBitTop returns true, and each argument reads afterwards as it read before.
-/
import Derived.Test.YtbaeipjjijdgiaaRows
import Derived.Test.YtbaeipjjijdgiaaChk
import Derived.Test.YtbaeipjjijdgiaaHk
namespace Go.Proofs.Ytbaeipjjijdgiaa.fnBitTop
open Go Go.Proofs.YtbaeipjjijdgiaaAm
open Go.ChangeShapes Go.WideShapes Go.ChangeAt Go.RowKit
set_option linter.unusedVariables false
set_option linter.unusedSimpArgs false
theorem own : ownKnob Try.prog.godebug = none := by kernel_rfl
theorem laidOut : laidOutB Try.prog = true := by kernel_rfl
theorem runs (N : Nat) (x0 : List Int) (x1 : List Int) : (mkCallee false plaws_FnBitTop (glaws_FnBitTop N)).run [.iv (.sl (.int .u8)) x0, .iv (.sl (.int .u8)) x1] [] isTrue = laws_FnBitTop N x0 x1 some := by kernel_rfl
theorem walk (v0 v1 : Value) (W : World) (x0 : List Int) (x1 : List Int) (z0 : wfD (.sl (.int .u8)) x0) (z1 : wfD (.sl (.int .u8)) x1) (y0 : HVR (cx0 W) (.iv (.sl (.int .u8)) x0) v0) (y1 : HVR (cx0 W) (.iv (.sl (.int .u8)) x1) v1) : Calls Try.prog 3 #[v0, v1] W fun e W' => e = .returned (.bool true) ∧ Below W.heap.size W W' := by
  obtain ⟨N, h⟩ := pure_FnBitTop x0 x1 z0 z1
  exact law_calls (vs := [v0, v1]) Try.func3 (by kernel_rfl) (by kernel_rfl) (olaws_FnBitTop N) (args := [.iv (.sl (.int .u8)) x0, .iv (.sl (.int .u8)) x1]) ⟨_, _, rfl, y0, _, _, rfl, y1, rfl⟩ ((runs N x0 x1).trans h)
set_option maxRecDepth 100000 in
theorem lifted (os : Os) (started : os.Started) (H : Type) (enc : TypeId × Value → H) :
    ReturnsInHanded {} Try.checked os 3 .any (Rows.fnBitTopSpec.pre6 enc Try.prog Try.f3 Rows.fnBitTopRow.domain false) (Rows.fnBitTopSpec.post enc Try.prog Try.f3 false true false false) := by
  refine returnsInHanded_of_change_sized (C := Try.checked) own started (by kernel_rfl) Try.func3
    (ChangeSpec.witness6 (enc := enc) (C := Try.checked) false ⟨#[], #[.slice none 0 0, .slice none 0 0], []⟩ 8 (by kernel_rfl) (by kernel_rfl) (by kernel_rfl) (by kernel_rfl)) ?_
  intro W base args ds gs before hval0 hW hcnd hsz0 _
  have hval : ∀ (j : Nat) t v, Try.f3.params[j]? = some t → args[j]? = some v → Value.okWide Try.prog W .any base t v := hval0
  have hW' := hW
  obtain ⟨p, q, hA0, hV, rfl, hfz, hnd⟩ := hW
  have hA : DataW.TrodAll enc Try.prog W 0 (fun _ => true) true Try.f3.params.toList args.toList ds p := hA0
  rw [Try.params3] at hA hval
  obtain ⟨v0, vs0, d0, ds0, p0, q0, hargs, rfl, rfl, h0, r0⟩ := trodAll_cons hA
  obtain ⟨v1, vs1, d1, ds1, p1, q1, rfl, rfl, rfl, h1, r1⟩ := trodAll_cons r0
  obtain ⟨rfl, rfl, rfl⟩ := trodAll_nil r1
  obtain rfl : args = #[v0, v1] := by cases args; simp_all
  obtain ⟨rfl, rfl⟩ := trodVars_none hV
  have k0 := h0
  have lt0 : ∀ x ∈ p0, x.block < W.heap.size := by obtain ⟨m, hm⟩ := k0; exact DataW.trod_lt m _ _ _ hm
  obtain ⟨x0, y0, z0⟩ := arg_ok (t := (.sl (.int .u8))) (by kernel_rfl) (hval 0 22 v0 rfl rfl) h0
  have k1 := h1
  have lt1 : ∀ x ∈ p1, x.block < W.heap.size := by obtain ⟨m, hm⟩ := k1; exact DataW.trod_lt m _ _ _ hm
  obtain ⟨x1, y1, z1⟩ := arg_ok (t := (.sl (.int .u8))) (by kernel_rfl) (hval 1 22 v1 rfl rfl) h1
  clear hA0 hval0 hsz0
  refine (walk v0 v1 W x0 x1 z0 z1 y0 y1 ).mono fun e W' ⟨he, bel⟩ => ?_
  subst he
  exact ⟨_, rfl, _, _, _, [], _, [], hW', trodAll_mk1 (shut_bool Try.underlying4 _), (trodAll_cons_mk (Below.trod laidOut (by kernel_rfl) (of_decide_eq_true (by kernel_rfl)) k0 bel lt0) (trodAll_cons_mk (Below.trod laidOut (by kernel_rfl) (of_decide_eq_true (by kernel_rfl)) k1 bel lt1) trodAll_mk0)), rfl, bel.frame _, fun h => by cases h⟩
theorem over : Rows.fnBitTopRow.holds Try.pinned (OpenSpec.ofChange Rows.fnBitTopSpec) :=
  OpenClaim.holds_of_wide 3 Try.f3 rfl rfl rfl rfl rfl rfl rfl ⟨rfl, rfl, rfl, rfl, rfl⟩ rfl rfl rfl rfl rfl (by kernel_rfl) Try.func3 (by kernel_rfl)
    (of_decide_eq_true (by kernel_rfl)) (by unfold Func.isWrapper; first | (rw [if_pos (by decide +kernel)]; kernel_rfl) | (rw [if_neg (by decide +kernel)]; exact ⟨rfl, rfl⟩))
    (fun os started H enc _ => lifted os started H enc)
end Go.Proofs.Ytbaeipjjijdgiaa.fnBitTop
namespace Go.Proofs.Ytbaeipjjijdgiaa
/-- The claim. -/
theorem fnBitTop_holds : Rows.FnBitTopSaid := fnBitTop.over
end Go.Proofs.Ytbaeipjjijdgiaa
