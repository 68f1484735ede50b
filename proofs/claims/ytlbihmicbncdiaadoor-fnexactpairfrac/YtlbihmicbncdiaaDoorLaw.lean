/-
  For every input the law FnExactPairFrac returns true, and each argument reads afterwards as it read before.
-/
import Derived.Test.YtlbihmicbncdiaaDoorRows
import Derived.Test.YtlbihmicbncdiaaDoorCards
import Derived.Test.YtlbihmicbncdiaaDoorTie
import Derived.Test.YtlbihmicbncdiaaDoorChkb
import Derived.Test.YtlbihmicbncdiaaDoorCb
import Derived.LaidMore
import Derived.Lib.LaidTab
import Derived.MakeChecks
import Derived.SevenTiedAt
import Derived.Stop.LaidErr
namespace Go.Proofs.YtlbihmicbncdiaaDoor.fnExactPairFrac
open Go Go.Proofs.YtlbihmicbncdiaaDoorAm
open Go.ChangeShapes Go.WideShapes Go.ChangeAt Go.RowKit
set_option linter.unusedVariables false
set_option linter.unusedSimpArgs false
theorem own : ownKnob Tryd.prog.godebug = none := by kernel_rfl
theorem laidOut : laidOutB Tryd.prog = true := by kernel_rfl
theorem runs (N : Nat) (x0 : Int) (x1 : Bool × (List Int) × (List Int) × Unit) : (mkCallee false plaws_FnExactPairFrac (glaws_FnExactPairFrac N)).run [.iv (.int .i64) x0, .iv (.pair .bool (.pair (.sl (.int .i64)) (.pair (.sl (.int .i64)) .unit))) x1] [] isTrue = laws_FnExactPairFrac N x0 x1 some := by kernel_rfl
theorem walk (v0 v1 : Value) (W : World) (x0 : Int) (x1 : Bool × (List Int) × (List Int) × Unit) (z0 : wfD (.int .i64) x0) (z1 : wfD (.pair .bool (.pair (.sl (.int .i64)) (.pair (.sl (.int .i64)) .unit))) x1) (y0 : HVR (cx0 W) (.iv (.int .i64) x0) v0) (y1 : HVR (cx0 W) (.iv (.pair .bool (.pair (.sl (.int .i64)) (.pair (.sl (.int .i64)) .unit))) x1) v1) (hL : laidMet Tryd.prog Rows.fnExactPairFracRow.laid W) : Calls Tryd.prog 5 #[v0, v1] W fun e W' => e = .returned (.bool true) ∧ Below W.heap.size W W' := by
  have e0 : Rows.laid_math_bits_deBruijn64tab (H := Unit) = Lib.tabData .u8 ctzTab := by kernel_rfl
  have hL0 : laidMet Tryd.prog (("math/bits.deBruijn64tab", Lib.tabData .u8 ctzTab) :: []) W := by rw [← e0]; exact hL
  have hT0 : tabOK W ⟨0, .u8, ctzTab⟩ := tabOK_of (by kernel_rfl) (Lib.tabIs_of_head (g := 0) (t := 119) (e := 5) (n := 64) (by kernel_rfl) (by kernel_rfl) (by kernel_rfl) (by kernel_rfl) (by kernel_rfl) (by kernel_rfl) hL0)
  have hlow : gd.N ≤ W.heap.size := hT0.low
  have hG : gd.G W := by
    intro t ht
    simp only [List.mem_cons, List.not_mem_nil, or_false] at ht
    rcases ht with rfl
    · exact hT0
  obtain ⟨N, h⟩ := pure_FnExactPairFrac x0 x1 z0 z1
  exact law_callsG (vs := [v0, v1]) Tryd.func5 (by kernel_rfl) (by kernel_rfl) (olaws_FnExactPairFrac N) (args := [.iv (.int .i64) x0, .iv (.pair .bool (.pair (.sl (.int .i64)) (.pair (.sl (.int .i64)) .unit))) x1]) ⟨_, _, rfl, y0, _, _, rfl, y1, rfl⟩ ((runs N x0 x1).trans h) hG hlow
theorem door_met (os : Os) (args : Array Value) : laidMetH Tryd.prog Rows.fnExactPairFracRow.laid ((World.doorLaid Tryd.prog 14 os).forCall (fun _ _ => 0) ⟨#[], args, []⟩).memory :=
  laidMetH_of_parts3 (fuel := 8) (laidMet_of_run' 8 (by kernel_rfl) (by kernel_rfl)) (by kernel_rfl) (by kernel_rfl)
set_option maxRecDepth 100000 in
theorem lifted (os : Os) (started : os.Started) (H : Type) (enc : TypeId × Value → H) :
    ReturnsInHanded {} Tryd.checked os 5 .any (fun w args => (Rows.fnExactPairFracSpec.pre enc Tryd.prog Tryd.f5 Rows.fnExactPairFracRow.domain false w args ∧ laidMetH Tryd.prog Rows.fnExactPairFracRow.laid w) ∧ sizedMet enc Tryd.prog Tryd.f5 (OpenSpec.ofChange Rows.fnExactPairFracSpec) false w args)
      (Rows.fnExactPairFracSpec.post enc Tryd.prog Tryd.f5 false true false false) := by
  refine returnsInHanded_of_change_and (C := Tryd.checked) (X := fun w _ => laidMetH Tryd.prog Rows.fnExactPairFracRow.laid w) (fun _ _ _ hh h => h.of_heap hh) own started (by kernel_rfl) Tryd.func5
    (ChangeSpec.witness_shaped (enc := enc) (C := Tryd.checked) (os := os) (X := fun w _ => laidMetH Tryd.prog Rows.fnExactPairFracRow.laid w) false (World.doorLaid Tryd.prog 14 os) #[.int .i64 0, .agg #[.bool false, .slice none 0 0, .slice none 0 0]] 8 rfl (World.shaped_of_RefB (by kernel_rfl) (by kernel_rfl)) (by kernel_rfl) (by kernel_rfl) (by kernel_rfl) (door_met os _)) ?_
  intro W base args ds gs before hval0 hW hcnd hsz0 hLH _
  have hval : ∀ (j : Nat) t v, Tryd.f5.params[j]? = some t → args[j]? = some v → Value.okWide Tryd.prog W .any base t v := hval0
  have hW' := hW
  obtain ⟨p, q, hA0, hV, rfl, hfz, hnd⟩ := hW
  have hA : DataW.TrodAll enc Tryd.prog W 0 (fun _ => true) true Tryd.f5.params.toList args.toList ds p := hA0
  rw [Tryd.params5] at hA hval
  obtain ⟨v0, vs0, d0, ds0, p0, q0, hargs, rfl, rfl, h0, r0⟩ := trodAll_cons hA
  obtain ⟨v1, vs1, d1, ds1, p1, q1, rfl, rfl, rfl, h1, r1⟩ := trodAll_cons r0
  obtain ⟨rfl, rfl, rfl⟩ := trodAll_nil r1
  obtain rfl : args = #[v0, v1] := by cases args; simp_all
  obtain ⟨rfl, rfl⟩ := trodVars_none hV
  have k0 := h0
  have lt0 : ∀ x ∈ p0, x.block < W.heap.size := by obtain ⟨m, hm⟩ := k0; exact DataW.trod_lt m _ _ _ hm
  obtain ⟨x0, y0, z0⟩ := arg_ok (t := (.int .i64)) (by kernel_rfl) (hval 0 3 v0 rfl rfl) h0
  have k1 := h1
  have lt1 : ∀ x ∈ p1, x.block < W.heap.size := by obtain ⟨m, hm⟩ := k1; exact DataW.trod_lt m _ _ _ hm
  obtain ⟨x1, y1, z1⟩ := arg_ok (t := (.pair .bool (.pair (.sl (.int .i64)) (.pair (.sl (.int .i64)) .unit)))) (by kernel_rfl) (hval 1 24 v1 rfl rfl) h1
  have hL : laidMet Tryd.prog Rows.fnExactPairFracRow.laid W := by
    rw [← MakeChecks.laidMetH_plain _ _ _ (by kernel_rfl)]
    exact hLH
  clear hA0 hval0 hsz0
  refine (walk v0 v1 W x0 x1 z0 z1 y0 y1 hL).mono fun e W' ⟨he, bel⟩ => ?_
  subst he
  exact ⟨_, rfl, _, _, _, [], _, [], hW', trodAll_mk1 (shut_bool Tryd.underlying4 _), (trodAll_cons_mk (Below.trod laidOut (by kernel_rfl) (of_decide_eq_true (by kernel_rfl)) k0 bel lt0) (trodAll_cons_mk (Below.trod laidOut (by kernel_rfl) (of_decide_eq_true (by kernel_rfl)) k1 bel lt1) trodAll_mk0)), rfl, bel.frame _, fun h => by cases h⟩
theorem over : Rows.fnExactPairFracRow.holds Tryd.pinned (OpenSpec.ofChange Rows.fnExactPairFracSpec) :=
  OpenClaim.holds_of_wide 5 Tryd.f5 rfl rfl rfl rfl rfl rfl rfl ⟨rfl, rfl, rfl, rfl, rfl⟩ rfl rfl rfl rfl rfl (by kernel_rfl) Tryd.func5 (by kernel_rfl)
    (of_decide_eq_true (by kernel_rfl)) (by unfold Func.isWrapper; first | (rw [if_pos (by decide +kernel)]; kernel_rfl) | (rw [if_neg (by decide +kernel)]; exact ⟨rfl, rfl⟩))
    (fun os started H enc _ => lifted os started H enc)
end Go.Proofs.YtlbihmicbncdiaaDoor.fnExactPairFrac
namespace Go.Proofs.YtlbihmicbncdiaaDoor
set_option maxRecDepth 100000 in
/-- The claim. -/
theorem fnExactPairFrac_holds : Rows.FnExactPairFracCardSaid :=
  Claim7.holds_tied_plain_at .later [] [.data] true (true, "75954d586615bda880111a4df3a756fd779c92cac687d956d65070072e2846a8") false
    fnExactPairFrac.over (fun _ h => by cases h) (by kernel_rfl) (fun _ h => by cases h) fnExactPairFrac_row_tie rfl ⟨rfl, rfl⟩ (by kernel_rfl) rfl
    (fun f fn hf hfn => by
      obtain rfl : f = 5 := Option.some.inj ((show Tryd.prog.funcNamed "loop.example/pinfold/laws.FnExactPairFrac" = some 5 by kernel_rfl).symm.trans hf) |>.symm
      obtain rfl : fn = Tryd.f5 := (Option.some.inj (Tryd.func5.symm.trans hfn)).symm
      exact ⟨by kernel_rfl, fun j t ht => by
        rw [Tryd.params5] at ht
        have hm : t ∈ [3, 24] := by simpa using Array.mem_of_getElem? ht
        have hall : ([3, 24].all fun u => !Tryd.prog.wantsStandIn u) = true := by kernel_rfl
        exact (show Tryd.prog.wantsStandIn t = false by simpa using List.all_eq_true.1 hall t hm)⟩)
    (by kernel_rfl)
end Go.Proofs.YtlbihmicbncdiaaDoor
