/-
  For every input the law FnExactLangTokens returns true, and each argument reads afterwards as it read before.
-/
import Derived.Test.YtnhbcpmmdblkjaaDoorRows
import Derived.Test.YtnhbcpmmdblkjaaDoorCards
import Derived.Test.YtnhbcpmmdblkjaaDoorTie
import Derived.Test.YtnhbcpmmdblkjaaDoorChk
import Derived.Test.YtnhbcpmmdblkjaaDoorId
import Derived.LaidMore
import Derived.Lib.LaidTab
import Derived.MakeChecks
import Derived.SevenTiedAt
import Derived.Stop.LaidErr
namespace Go.Proofs.YtnhbcpmmdblkjaaDoor.fnExactLangTokens
open Go Go.Proofs.YtnhbcpmmdblkjaaDoorAm
open Go.ChangeShapes Go.WideShapes Go.ChangeAt Go.RowKit
set_option linter.unusedVariables false
set_option linter.unusedSimpArgs false
theorem own : ownKnob Tryd.prog.godebug = none := by kernel_rfl
theorem laidOut : laidOutB Tryd.prog = true := by kernel_rfl
theorem runs (N : Nat) (x0 : ByteArray) : (mkCallee false plaws_FnExactLangTokens (glaws_FnExactLangTokens N)).run [.iv .str x0] [] isTrue = laws_FnExactLangTokens N x0 some := by kernel_rfl
theorem walk (v0 : Value) (W : World) (x0 : ByteArray) (z0 : wfD .str x0) (y0 : HVR (cx0 W) (.iv .str x0) v0) (hL : laidMet Tryd.prog Rows.fnExactLangTokensRow.laid W) : Calls Tryd.prog 3 #[v0] W fun e W' => e = .returned (.bool true) ∧ Below W.heap.size W W' := by
  have hE0 : errOK W 2 := errOK_of (P := Tryd.prog) ((((hL).tail).tail).tail).tail (by kernel_rfl) (by kernel_rfl)
  have hE1 : errOK W 3 := errOK_of (P := Tryd.prog) (((hL).tail).tail).tail (by kernel_rfl) (by kernel_rfl)
  have hlow : gd.N ≤ W.heap.size := hE1.low
  have hG : gd.G W := by
    refine ⟨?_, ?_⟩
    · intro t ht
      cases ht
    · intro g hg
      simp only [List.mem_cons, List.not_mem_nil, or_false] at hg
      rcases hg with rfl | rfl
      · exact hE0
      · exact hE1
  obtain ⟨N, h⟩ := pure_FnExactLangTokens x0 
  exact law_callsG (vs := [v0]) Tryd.func3 (by kernel_rfl) (by kernel_rfl) (olaws_FnExactLangTokens N) (args := [.iv .str x0]) ⟨_, _, rfl, y0, rfl⟩ ((runs N x0).trans h) hG hlow
theorem door_met (os : Os) (args : Array Value) : laidMetH Tryd.prog Rows.fnExactLangTokensRow.laid ((World.doorLaid Tryd.prog 62 os).forCall (fun _ _ => 0) ⟨#[], args, []⟩).memory :=
  laidMetH_of_parts3 (fuel := 8) (laidMet_of_run' 8 (by kernel_rfl) (by kernel_rfl)) (by kernel_rfl) (by kernel_rfl)
set_option maxRecDepth 100000 in
theorem lifted (os : Os) (started : os.Started) (H : Type) (enc : TypeId × Value → H) :
    ReturnsInHanded {} Tryd.checked os 3 .any (fun w args => (Rows.fnExactLangTokensSpec.pre enc Tryd.prog Tryd.f3 Rows.fnExactLangTokensRow.domain false w args ∧ laidMetH Tryd.prog Rows.fnExactLangTokensRow.laid w) ∧ sizedMet enc Tryd.prog Tryd.f3 (OpenSpec.ofChange Rows.fnExactLangTokensSpec) false w args)
      (Rows.fnExactLangTokensSpec.post enc Tryd.prog Tryd.f3 false true false false) := by
  refine returnsInHanded_of_change_and (C := Tryd.checked) (X := fun w _ => laidMetH Tryd.prog Rows.fnExactLangTokensRow.laid w) (fun _ _ _ hh h => h.of_heap hh) own started (by kernel_rfl) Tryd.func3
    (ChangeSpec.witness_shaped (enc := enc) (C := Tryd.checked) (os := os) (X := fun w _ => laidMetH Tryd.prog Rows.fnExactLangTokensRow.laid w) false (World.doorLaid Tryd.prog 62 os) #[.string ByteArray.empty] 8 rfl (World.shaped_of_RefB (by kernel_rfl) (by kernel_rfl)) (by kernel_rfl) (by kernel_rfl) (by kernel_rfl) (door_met os _)) ?_
  intro W base args ds gs before hval0 hW hcnd hsz0 hLH _
  have hval : ∀ (j : Nat) t v, Tryd.f3.params[j]? = some t → args[j]? = some v → Value.okWide Tryd.prog W .any base t v := hval0
  have hW' := hW
  obtain ⟨p, q, hA0, hV, rfl, hfz, hnd⟩ := hW
  have hA : DataW.TrodAll enc Tryd.prog W 0 (fun _ => true) true Tryd.f3.params.toList args.toList ds p := hA0
  rw [Tryd.params3] at hA hval
  obtain ⟨v0, vs0, d0, ds0, p0, q0, hargs, rfl, rfl, h0, r0⟩ := trodAll_cons hA
  obtain ⟨rfl, rfl, rfl⟩ := trodAll_nil r0
  obtain rfl : args = #[v0] := by cases args; simp_all
  obtain ⟨rfl, rfl⟩ := trodVars_none hV
  have k0 := h0
  have lt0 : ∀ x ∈ p0, x.block < W.heap.size := by obtain ⟨m, hm⟩ := k0; exact DataW.trod_lt m _ _ _ hm
  obtain ⟨x0, y0, z0⟩ := arg_ok (t := .str) (by kernel_rfl) (hval 0 9 v0 rfl rfl) h0
  have hL : laidMet Tryd.prog Rows.fnExactLangTokensRow.laid W := by
    rw [← MakeChecks.laidMetH_plain _ _ _ (by kernel_rfl)]
    exact hLH
  clear hA0 hval0 hsz0
  refine (walk v0 W x0 z0 y0 hL).mono fun e W' ⟨he, bel⟩ => ?_
  subst he
  exact ⟨_, rfl, _, _, _, [], _, [], hW', trodAll_mk1 (shut_bool Tryd.underlying4 _), (trodAll_cons_mk (Below.trod laidOut (by kernel_rfl) (of_decide_eq_true (by kernel_rfl)) k0 bel lt0) trodAll_mk0), rfl, bel.frame _, fun h => by cases h⟩
theorem over : Rows.fnExactLangTokensRow.holds Tryd.pinned (OpenSpec.ofChange Rows.fnExactLangTokensSpec) :=
  OpenClaim.holds_of_wide 3 Tryd.f3 rfl rfl rfl rfl rfl rfl rfl ⟨rfl, rfl, rfl, rfl, rfl⟩ rfl rfl rfl rfl rfl (by kernel_rfl) Tryd.func3 (by kernel_rfl)
    (of_decide_eq_true (by kernel_rfl)) (by unfold Func.isWrapper; first | (rw [if_pos (by decide +kernel)]; kernel_rfl) | (rw [if_neg (by decide +kernel)]; exact ⟨rfl, rfl⟩))
    (fun os started H enc _ => lifted os started H enc)
end Go.Proofs.YtnhbcpmmdblkjaaDoor.fnExactLangTokens
namespace Go.Proofs.YtnhbcpmmdblkjaaDoor
set_option maxRecDepth 100000 in
/-- The claim. -/
theorem fnExactLangTokens_holds : Rows.FnExactLangTokensCardSaid :=
  Claim7.holds_tied_plain_at .later [] [.data, .data, .data, .sentinel, .sentinel] true (true, "26abe33f3970d7b9a64047fa88c755cb4a4cb6529807aa1dc2425dbe72d917a8") true
    fnExactLangTokens.over (fun _ h => by cases h) (by kernel_rfl) (fun _ h => by cases h) fnExactLangTokens_row_tie rfl ⟨rfl, rfl⟩ (by kernel_rfl) rfl
    (fun f fn hf hfn => by
      obtain rfl : f = 3 := Option.some.inj ((show Tryd.prog.funcNamed "loop.example/pinfold/laws.FnExactLangTokens" = some 3 by kernel_rfl).symm.trans hf) |>.symm
      obtain rfl : fn = Tryd.f3 := (Option.some.inj (Tryd.func3.symm.trans hfn)).symm
      exact ⟨by kernel_rfl, fun j t ht => by
        rw [Tryd.params3] at ht
        have hm : t ∈ [9] := by simpa using Array.mem_of_getElem? ht
        have hall : ([9].all fun u => !Tryd.prog.wantsStandIn u) = true := by kernel_rfl
        exact (show Tryd.prog.wantsStandIn t = false by simpa using List.all_eq_true.1 hall t hm)⟩)
    (by kernel_rfl)
end Go.Proofs.YtnhbcpmmdblkjaaDoor
