/-
  For every input the law FnExactSpanPow returns true, and each argument reads afterwards as it read before.
-/
import Derived.Test.YtlbihmicbncdiaaDoorRows
import Derived.Test.YtlbihmicbncdiaaDoorCards
import Derived.Test.YtlbihmicbncdiaaDoorTie
import Derived.Test.YtlbihmicbncdiaaDoorChkb
import Derived.Test.YtlbihmicbncdiaaDoorCf
import Derived.LaidMore
import Derived.Lib.LaidTab
import Derived.MakeChecks
import Derived.SevenTiedAt
import Derived.Stop.LaidErr
namespace Go.Proofs.YtlbihmicbncdiaaDoor.fnExactSpanPow
open Go Go.Proofs.YtlbihmicbncdiaaDoorAm
open Go.ChangeShapes Go.WideShapes Go.ChangeAt Go.RowKit
set_option linter.unusedVariables false
set_option linter.unusedSimpArgs false
theorem own : ownKnob Tryd.prog.godebug = none := by kernel_rfl
theorem laidOut : laidOutB Tryd.prog = true := by kernel_rfl
theorem runs (N : Nat) (x0 : Int) (x1 : Bool × Int × Int × Unit) (x2 : Int) : (mkCallee false plaws_FnExactSpanPow (glaws_FnExactSpanPow N)).run [.iv (.int .i64) x0, .iv (.pair .bool (.pair (.int .i64) (.pair (.int .i64) .unit))) x1, .iv (.int .i64) x2] [] isTrue = laws_FnExactSpanPow N x0 x1 x2 some := by kernel_rfl
theorem walk (v0 v1 v2 : Value) (W : World) (x0 : Int) (x1 : Bool × Int × Int × Unit) (x2 : Int) (z0 : wfD (.int .i64) x0) (z1 : wfD (.pair .bool (.pair (.int .i64) (.pair (.int .i64) .unit))) x1) (z2 : wfD (.int .i64) x2) (y0 : HVR (cx0 W) (.iv (.int .i64) x0) v0) (y1 : HVR (cx0 W) (.iv (.pair .bool (.pair (.int .i64) (.pair (.int .i64) .unit))) x1) v1) (y2 : HVR (cx0 W) (.iv (.int .i64) x2) v2) (hL : laidMet Tryd.prog Rows.fnExactSpanPowRow.laid W) : Calls Tryd.prog 6 #[v0, v1, v2] W fun e W' => e = .returned (.bool true) ∧ Below W.heap.size W W' := by
  have e0 : Rows.laid_math_bits_deBruijn64tab (H := Unit) = Lib.tabData .u8 ctzTab := by kernel_rfl
  have hL0 : laidMet Tryd.prog (("math/bits.deBruijn64tab", Lib.tabData .u8 ctzTab) :: []) W := by rw [← e0]; exact hL
  have hT0 : tabOK W ⟨0, .u8, ctzTab⟩ := tabOK_of (by kernel_rfl) (Lib.tabIs_of_head (g := 0) (t := 119) (e := 5) (n := 64) (by kernel_rfl) (by kernel_rfl) (by kernel_rfl) (by kernel_rfl) (by kernel_rfl) (by kernel_rfl) hL0)
  have hlow : gd.N ≤ W.heap.size := hT0.low
  have hG : gd.G W := by
    intro t ht
    simp only [List.mem_cons, List.not_mem_nil, or_false] at ht
    rcases ht with rfl
    · exact hT0
  obtain ⟨N, h⟩ := pure_FnExactSpanPow x0 x1 x2 
  exact law_callsG (vs := [v0, v1, v2]) Tryd.func6 (by kernel_rfl) (by kernel_rfl) (olaws_FnExactSpanPow N) (args := [.iv (.int .i64) x0, .iv (.pair .bool (.pair (.int .i64) (.pair (.int .i64) .unit))) x1, .iv (.int .i64) x2]) ⟨_, _, rfl, y0, _, _, rfl, y1, _, _, rfl, y2, rfl⟩ ((runs N x0 x1 x2).trans h) hG hlow
theorem door_met (os : Os) (args : Array Value) : laidMetH Tryd.prog Rows.fnExactSpanPowRow.laid ((World.doorLaid Tryd.prog 14 os).forCall (fun _ _ => 0) ⟨#[], args, []⟩).memory :=
  laidMetH_of_parts3 (fuel := 8) (laidMet_of_run' 8 (by kernel_rfl) (by kernel_rfl)) (by kernel_rfl) (by kernel_rfl)
set_option maxRecDepth 100000 in
theorem lifted (os : Os) (started : os.Started) (H : Type) (enc : TypeId × Value → H) :
    ReturnsInHanded {} Tryd.checked os 6 .any (fun w args => (Rows.fnExactSpanPowSpec.pre enc Tryd.prog Tryd.f6 Rows.fnExactSpanPowRow.domain false w args ∧ laidMetH Tryd.prog Rows.fnExactSpanPowRow.laid w) ∧ sizedMet enc Tryd.prog Tryd.f6 (OpenSpec.ofChange Rows.fnExactSpanPowSpec) false w args)
      (Rows.fnExactSpanPowSpec.post enc Tryd.prog Tryd.f6 false true false false) := by
  refine returnsInHanded_of_change_and (C := Tryd.checked) (X := fun w _ => laidMetH Tryd.prog Rows.fnExactSpanPowRow.laid w) (fun _ _ _ hh h => h.of_heap hh) own started (by kernel_rfl) Tryd.func6
    (ChangeSpec.witness_shaped (enc := enc) (C := Tryd.checked) (os := os) (X := fun w _ => laidMetH Tryd.prog Rows.fnExactSpanPowRow.laid w) false (World.doorLaid Tryd.prog 14 os) #[.int .i64 0, .agg #[.bool false, .int .i64 0, .int .i64 0], .int .i64 0] 8 rfl (World.shaped_of_RefB (by kernel_rfl) (by kernel_rfl)) (by kernel_rfl) (by kernel_rfl) (by kernel_rfl) (door_met os _)) ?_
  intro W base args ds gs before hval0 hW hcnd hsz0 hLH _
  have hval : ∀ (j : Nat) t v, Tryd.f6.params[j]? = some t → args[j]? = some v → Value.okWide Tryd.prog W .any base t v := hval0
  have hW' := hW
  obtain ⟨p, q, hA0, hV, rfl, hfz, hnd⟩ := hW
  have hA : DataW.TrodAll enc Tryd.prog W 0 (fun _ => true) true Tryd.f6.params.toList args.toList ds p := hA0
  rw [Tryd.params6] at hA hval
  obtain ⟨v0, vs0, d0, ds0, p0, q0, hargs, rfl, rfl, h0, r0⟩ := trodAll_cons hA
  obtain ⟨v1, vs1, d1, ds1, p1, q1, rfl, rfl, rfl, h1, r1⟩ := trodAll_cons r0
  obtain ⟨v2, vs2, d2, ds2, p2, q2, rfl, rfl, rfl, h2, r2⟩ := trodAll_cons r1
  obtain ⟨rfl, rfl, rfl⟩ := trodAll_nil r2
  obtain rfl : args = #[v0, v1, v2] := by cases args; simp_all
  obtain ⟨rfl, rfl⟩ := trodVars_none hV
  have k0 := h0
  have lt0 : ∀ x ∈ p0, x.block < W.heap.size := by obtain ⟨m, hm⟩ := k0; exact DataW.trod_lt m _ _ _ hm
  obtain ⟨x0, y0, z0⟩ := arg_ok (t := (.int .i64)) (by kernel_rfl) (hval 0 3 v0 rfl rfl) h0
  have k1 := h1
  have lt1 : ∀ x ∈ p1, x.block < W.heap.size := by obtain ⟨m, hm⟩ := k1; exact DataW.trod_lt m _ _ _ hm
  obtain ⟨x1, y1, z1⟩ := arg_ok (t := (.pair .bool (.pair (.int .i64) (.pair (.int .i64) .unit)))) (by kernel_rfl) (hval 1 38 v1 rfl rfl) h1
  have k2 := h2
  have lt2 : ∀ x ∈ p2, x.block < W.heap.size := by obtain ⟨m, hm⟩ := k2; exact DataW.trod_lt m _ _ _ hm
  obtain ⟨x2, y2, z2⟩ := arg_ok (t := (.int .i64)) (by kernel_rfl) (hval 2 3 v2 rfl rfl) h2
  have hL : laidMet Tryd.prog Rows.fnExactSpanPowRow.laid W := by
    rw [← MakeChecks.laidMetH_plain _ _ _ (by kernel_rfl)]
    exact hLH
  clear hA0 hval0 hsz0
  refine (walk v0 v1 v2 W x0 x1 x2 z0 z1 z2 y0 y1 y2 hL).mono fun e W' ⟨he, bel⟩ => ?_
  subst he
  exact ⟨_, rfl, _, _, _, [], _, [], hW', trodAll_mk1 (shut_bool Tryd.underlying4 _), (trodAll_cons_mk (Below.trod laidOut (by kernel_rfl) (of_decide_eq_true (by kernel_rfl)) k0 bel lt0) (trodAll_cons_mk (Below.trod laidOut (by kernel_rfl) (of_decide_eq_true (by kernel_rfl)) k1 bel lt1) (trodAll_cons_mk (Below.trod laidOut (by kernel_rfl) (of_decide_eq_true (by kernel_rfl)) k2 bel lt2) trodAll_mk0))), rfl, bel.frame _, fun h => by cases h⟩
theorem over : Rows.fnExactSpanPowRow.holds Tryd.pinned (OpenSpec.ofChange Rows.fnExactSpanPowSpec) :=
  OpenClaim.holds_of_wide 6 Tryd.f6 rfl rfl rfl rfl rfl rfl rfl ⟨rfl, rfl, rfl, rfl, rfl⟩ rfl rfl rfl rfl rfl (by kernel_rfl) Tryd.func6 (by kernel_rfl)
    (of_decide_eq_true (by kernel_rfl)) (by unfold Func.isWrapper; first | (rw [if_pos (by decide +kernel)]; kernel_rfl) | (rw [if_neg (by decide +kernel)]; exact ⟨rfl, rfl⟩))
    (fun os started H enc _ => lifted os started H enc)
end Go.Proofs.YtlbihmicbncdiaaDoor.fnExactSpanPow
namespace Go.Proofs.YtlbihmicbncdiaaDoor
set_option maxRecDepth 100000 in
/-- The claim. -/
theorem fnExactSpanPow_holds : Rows.FnExactSpanPowCardSaid :=
  Claim7.holds_tied_plain_at .later [] [.data] true (true, "75954d586615bda880111a4df3a756fd779c92cac687d956d65070072e2846a8") false
    fnExactSpanPow.over (fun _ h => by cases h) (by kernel_rfl) (fun _ h => by cases h) fnExactSpanPow_row_tie rfl ⟨rfl, rfl⟩ (by kernel_rfl) rfl
    (fun f fn hf hfn => by
      obtain rfl : f = 6 := Option.some.inj ((show Tryd.prog.funcNamed "loop.example/pinfold/laws.FnExactSpanPow" = some 6 by kernel_rfl).symm.trans hf) |>.symm
      obtain rfl : fn = Tryd.f6 := (Option.some.inj (Tryd.func6.symm.trans hfn)).symm
      exact ⟨by kernel_rfl, fun j t ht => by
        rw [Tryd.params6] at ht
        have hm : t ∈ [3, 38, 3] := by simpa using Array.mem_of_getElem? ht
        have hall : ([3, 38, 3].all fun u => !Tryd.prog.wantsStandIn u) = true := by kernel_rfl
        exact (show Tryd.prog.wantsStandIn t = false by simpa using List.all_eq_true.1 hall t hm)⟩)
    (by kernel_rfl)
end Go.Proofs.YtlbihmicbncdiaaDoor
