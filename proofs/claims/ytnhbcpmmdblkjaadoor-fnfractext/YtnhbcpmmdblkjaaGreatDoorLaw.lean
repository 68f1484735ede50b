/-
  For every input the law FnFracText returns true, and each argument reads afterwards as it read before.
-/
import Derived.Test.YtnhbcpmmdblkjaaGreatDoorRows
import Derived.Test.YtnhbcpmmdblkjaaGreatDoorCards
import Derived.Test.YtnhbcpmmdblkjaaGreatDoorTie
import Derived.Test.YtnhbcpmmdblkjaaGreatDoorChkb
import Derived.Test.YtnhbcpmmdblkjaaGreatDoorGe
import Derived.LaidMore
import Derived.Lib.LaidTab
import Derived.MakeChecks
import Derived.SevenTiedAt
import Derived.Stop.LaidErr
namespace Go.Proofs.YtnhbcpmmdblkjaaGreatDoor.fnFracText
open Go Go.Proofs.YtnhbcpmmdblkjaaGreatDoorAm
open Go.ChangeShapes Go.WideShapes Go.ChangeAt Go.RowKit
set_option linter.unusedVariables false
set_option linter.unusedSimpArgs false
theorem own : ownKnob Tryz.prog.godebug = none := by kernel_rfl
theorem laidOut : laidOutB Tryz.prog = true := by kernel_rfl
theorem runs (N : Nat) (x0 : List Int) : (mkCallee false plaws_FnFracText (glaws_FnFracText N)).run [.iv (.sl (.int .u8)) x0] [] isTrue = laws_FnFracText N x0 some := by kernel_rfl
theorem walk (v0 : Value) (W : World) (x0 : List Int) (z0 : wfD (.sl (.int .u8)) x0) (y0 : HVR (cx0 W) (.iv (.sl (.int .u8)) x0) v0) (hL : laidMet Tryz.prog Rows.fnFracTextRow.laid W) : Calls Tryz.prog 3 #[v0] W fun e W' => e = .returned (.bool true) ∧ Below W.heap.size W W' := by
  have e0 : Rows.laid_internal_strconv_uint64pow10 (H := Unit) = Lib.tabData .u64 Go.Lib.pow10Tab := by kernel_rfl
  have hL0 : laidMet Tryz.prog (("internal/strconv.uint64pow10", Lib.tabData .u64 Go.Lib.pow10Tab) :: []) W := by rw [← e0]; exact ((hL).tail).tail
  have hT0 : tabOK W ⟨2, .u64, Go.Lib.pow10Tab⟩ := tabOK_of (by kernel_rfl) (Lib.tabIs_of_head (g := 2) (t := 188) (e := 77) (n := 20) (by kernel_rfl) (by kernel_rfl) (by kernel_rfl) (by kernel_rfl) (by kernel_rfl) (by kernel_rfl) hL0)
  have hlow : gd.N ≤ W.heap.size := hT0.low
  have hG : gd.G W := by
    intro t ht
    simp only [List.mem_cons, List.not_mem_nil, or_false] at ht
    rcases ht with rfl
    · exact hT0
  obtain ⟨N, h⟩ := pure_FnFracText x0 z0
  exact law_callsG (vs := [v0]) Tryz.func3 (by kernel_rfl) (by kernel_rfl) (olaws_FnFracText N) (args := [.iv (.sl (.int .u8)) x0]) ⟨_, _, rfl, y0, rfl⟩ ((runs N x0).trans h) hG hlow
theorem door_met (os : Os) (args : Array Value) : laidMetH Tryz.prog Rows.fnFracTextRow.laid ((World.doorLaid Tryz.prog 62 os).forCall (fun _ _ => 0) ⟨#[], args, []⟩).memory :=
  laidMetH_of_parts3 (fuel := 8) (laidMet_of_run' 8 (by kernel_rfl) (by kernel_rfl)) (by kernel_rfl) (by kernel_rfl)
set_option maxRecDepth 100000 in
theorem lifted (os : Os) (started : os.Started) (H : Type) (enc : TypeId × Value → H) :
    ReturnsInHanded {} Tryz.checked os 3 .any (fun w args => (Rows.fnFracTextSpec.pre enc Tryz.prog Tryz.f3 Rows.fnFracTextRow.domain false w args ∧ laidMetH Tryz.prog Rows.fnFracTextRow.laid w) ∧ sizedMet enc Tryz.prog Tryz.f3 (OpenSpec.ofChange Rows.fnFracTextSpec) false w args)
      (Rows.fnFracTextSpec.post enc Tryz.prog Tryz.f3 false true false false) := by
  refine returnsInHanded_of_change_and (C := Tryz.checked) (X := fun w _ => laidMetH Tryz.prog Rows.fnFracTextRow.laid w) (fun _ _ _ hh h => h.of_heap hh) own started (by kernel_rfl) Tryz.func3
    (ChangeSpec.witness_shaped (enc := enc) (C := Tryz.checked) (os := os) (X := fun w _ => laidMetH Tryz.prog Rows.fnFracTextRow.laid w) false (World.doorLaid Tryz.prog 62 os) #[.slice none 0 0] 8 rfl (World.shaped_of_RefB (by kernel_rfl) (by kernel_rfl)) (by kernel_rfl) (by kernel_rfl) (by kernel_rfl) (door_met os _)) ?_
  intro W base args ds gs before hval0 hW hcnd hsz0 hLH _
  have hval : ∀ (j : Nat) t v, Tryz.f3.params[j]? = some t → args[j]? = some v → Value.okWide Tryz.prog W .any base t v := hval0
  have hW' := hW
  obtain ⟨p, q, hA0, hV, rfl, hfz, hnd⟩ := hW
  have hA : DataW.TrodAll enc Tryz.prog W 0 (fun _ => true) true Tryz.f3.params.toList args.toList ds p := hA0
  rw [Tryz.params3] at hA hval
  obtain ⟨v0, vs0, d0, ds0, p0, q0, hargs, rfl, rfl, h0, r0⟩ := trodAll_cons hA
  obtain ⟨rfl, rfl, rfl⟩ := trodAll_nil r0
  obtain rfl : args = #[v0] := by cases args; simp_all
  obtain ⟨rfl, rfl⟩ := trodVars_none hV
  have k0 := h0
  have lt0 : ∀ x ∈ p0, x.block < W.heap.size := by obtain ⟨m, hm⟩ := k0; exact DataW.trod_lt m _ _ _ hm
  obtain ⟨x0, y0, z0⟩ := arg_ok (t := (.sl (.int .u8))) (by kernel_rfl) (hval 0 22 v0 rfl rfl) h0
  have hL : laidMet Tryz.prog Rows.fnFracTextRow.laid W := by
    rw [← MakeChecks.laidMetH_plain _ _ _ (by kernel_rfl)]
    exact hLH
  clear hA0 hval0 hsz0
  refine (walk v0 W x0 z0 y0 hL).mono fun e W' ⟨he, bel⟩ => ?_
  subst he
  exact ⟨_, rfl, _, _, _, [], _, [], hW', trodAll_mk1 (shut_bool Tryz.underlying4 _), (trodAll_cons_mk (Below.trod laidOut (by kernel_rfl) (of_decide_eq_true (by kernel_rfl)) k0 bel lt0) trodAll_mk0), rfl, bel.frame _, fun h => by cases h⟩
theorem over : Rows.fnFracTextRow.holds Tryz.pinned (OpenSpec.ofChange Rows.fnFracTextSpec) :=
  OpenClaim.holds_of_wide 3 Tryz.f3 rfl rfl rfl rfl rfl rfl rfl ⟨rfl, rfl, rfl, rfl, rfl⟩ rfl rfl rfl rfl rfl (by kernel_rfl) Tryz.func3 (by kernel_rfl)
    (of_decide_eq_true (by kernel_rfl)) (by unfold Func.isWrapper; first | (rw [if_pos (by decide +kernel)]; kernel_rfl) | (rw [if_neg (by decide +kernel)]; exact ⟨rfl, rfl⟩))
    (fun os started H enc _ => lifted os started H enc)
end Go.Proofs.YtnhbcpmmdblkjaaGreatDoor.fnFracText
namespace Go.Proofs.YtnhbcpmmdblkjaaGreatDoor
set_option maxRecDepth 100000 in
/-- The claim. -/
theorem fnFracText_holds : Rows.FnFracTextCardSaid :=
  Claim7.holds_tied_plain_at .later [] [.data, .data, .data] true (true, "0fde0308789e0535af9645e8a95b7bee6397c6b74898db810ec2a973721afa9a") true
    fnFracText.over (fun _ h => by cases h) (by kernel_rfl) (fun _ h => by cases h) fnFracText_row_tie rfl ⟨rfl, rfl⟩ (by kernel_rfl) rfl
    (fun f fn hf hfn => by
      obtain rfl : f = 3 := Option.some.inj ((show Tryz.prog.funcNamed "loop.example/pinfold/laws.FnFracText" = some 3 by kernel_rfl).symm.trans hf) |>.symm
      obtain rfl : fn = Tryz.f3 := (Option.some.inj (Tryz.func3.symm.trans hfn)).symm
      exact ⟨by kernel_rfl, fun j t ht => by
        rw [Tryz.params3] at ht
        have hm : t ∈ [22] := by simpa using Array.mem_of_getElem? ht
        have hall : ([22].all fun u => !Tryz.prog.wantsStandIn u) = true := by kernel_rfl
        exact (show Tryz.prog.wantsStandIn t = false by simpa using List.all_eq_true.1 hall t hm)⟩)
    (by kernel_rfl)
end Go.Proofs.YtnhbcpmmdblkjaaGreatDoor
