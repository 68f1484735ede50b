/-
  For every input the law FnPairDec returns true, and each argument reads afterwards as it read before.
-/
import Derived.Test.YtnhbcpmmdblkjaaGreatDoorRows
import Derived.Test.YtnhbcpmmdblkjaaGreatDoorCards
import Derived.Test.YtnhbcpmmdblkjaaGreatDoorTie
import Derived.Test.YtnhbcpmmdblkjaaGreatDoorChkb
import Derived.Test.YtnhbcpmmdblkjaaGreatDoorHm
import Derived.LaidMore
import Derived.Lib.LaidTab
import Derived.MakeChecks
import Derived.SevenTiedAt
import Derived.Stop.LaidErr
namespace Go.Proofs.YtnhbcpmmdblkjaaGreatDoor.fnPairDec
open Go Go.Proofs.YtnhbcpmmdblkjaaGreatDoorAm
open Go.ChangeShapes Go.WideShapes Go.ChangeAt Go.RowKit
set_option linter.unusedVariables false
set_option linter.unusedSimpArgs false
theorem own : ownKnob Tryz.prog.godebug = none := by kernel_rfl
theorem wpY : laidOutB Tryz.prog = true := by kernel_rfl
theorem runs (N : Nat) (x0 : List Int) (x1 : List Int) : (wa false plaws_FnPairDec (glaws_FnPairDec N)).run [.iv (.sl (.int .u8)) x0, .iv (.sl (.int .u8)) x1] [] wnr = laws_FnPairDec N x0 x1 some := by kernel_rfl
theorem walk (v0 v1 : Value) (W : World) (x0 : List Int) (x1 : List Int) (z0 : wfD (.sl (.int .u8)) x0) (z1 : wfD (.sl (.int .u8)) x1) (y0 : HVR (cx0 W) (.iv (.sl (.int .u8)) x0) v0) (y1 : HVR (cx0 W) (.iv (.sl (.int .u8)) x1) v1) (hL : laidMet Tryz.prog Rows.fnPairDecRow.laid W) : Calls Tryz.prog 5 #[v0, v1] W fun e W' => e = .returned (.bool true) ∧ Below W.heap.size W W' := by
  have e0 : Rows.laid_math_bits_deBruijn64tab (H := Unit) = Lib.tabData .u8 wjD := by kernel_rfl
  have hL0 : laidMet Tryz.prog (("math/bits.deBruijn64tab", Lib.tabData .u8 wjD) :: [("internal/strconv.uint64pow10", Rows.laid_internal_strconv_uint64pow10 (H := Unit)), ("strconv.ErrRange", Rows.laid_strconv_ErrRange (H := Unit)), ("strconv.ErrSyntax", Rows.laid_strconv_ErrSyntax (H := Unit))]) W := by rw [← e0]; exact (hL).tail
  have hT0 : wlU W ⟨1, .u8, wjD⟩ := wrh (by kernel_rfl) (Lib.tabIs_of_head (g := 1) (t := 186) (e := 5) (n := 64) (by kernel_rfl) (by kernel_rfl) (by kernel_rfl) (by kernel_rfl) (by kernel_rfl) (by kernel_rfl) hL0)
  have hE0 : wla W 3 := wpb (P := Tryz.prog) ((((hL).tail).tail).tail).tail (by kernel_rfl) (by kernel_rfl)
  have hE1 : wla W 4 := wpb (P := Tryz.prog) (((hL).tail).tail).tail (by kernel_rfl) (by kernel_rfl)
  have hlow : gd.N ≤ W.heap.size := hE1.low
  have hG : gd.G W := by
    refine ⟨?_, ?_⟩
    · intro t ht
      simp only [List.mem_cons, List.not_mem_nil, or_false] at ht
      rcases ht with rfl
      · exact hT0
    · intro g hg
      simp only [List.mem_cons, List.not_mem_nil, or_false] at hg
      rcases hg with rfl | rfl
      · exact hE0
      · exact hE1
  obtain ⟨N, h⟩ := pure_FnPairDec x0 x1 z0 z1
  exact wpA (vs := [v0, v1]) Tryz.func5 (by kernel_rfl) (by kernel_rfl) (olaws_FnPairDec N) (args := [.iv (.sl (.int .u8)) x0, .iv (.sl (.int .u8)) x1]) ⟨_, _, rfl, y0, _, _, rfl, y1, rfl⟩ ((runs N x0 x1).trans h) hG hlow
theorem wrG (os : Os) (args : Array Value) : laidMetH Tryz.prog Rows.fnPairDecRow.laid ((World.doorLaid Tryz.prog 62 os).forCall (fun _ _ => 0) ⟨#[], args, []⟩).memory :=
  laidMetH_of_parts3 (fuel := 8) (laidMet_of_run' 8 (by kernel_rfl) (by kernel_rfl)) (by kernel_rfl) (by kernel_rfl)
set_option maxRecDepth 100000 in
theorem wt0 (os : Os) (started : os.Started) (H : Type) (enc : TypeId × Value → H) :
    ReturnsInHanded {} Tryz.checked os 5 .any (fun w args => (Rows.fnPairDecSpec.pre enc Tryz.prog Tryz.f5 Rows.fnPairDecRow.domain false w args ∧ laidMetH Tryz.prog Rows.fnPairDecRow.laid w) ∧ sizedMet enc Tryz.prog Tryz.f5 (OpenSpec.ofChange Rows.fnPairDecSpec) false w args)
      (Rows.fnPairDecSpec.post enc Tryz.prog Tryz.f5 false true false false) := by
  refine returnsInHanded_of_change_and (C := Tryz.checked) (X := fun w _ => laidMetH Tryz.prog Rows.fnPairDecRow.laid w) (fun _ _ _ hh h => h.of_heap hh) own started (by kernel_rfl) Tryz.func5
    (ChangeSpec.witness_shaped (enc := enc) (C := Tryz.checked) (os := os) (X := fun w _ => laidMetH Tryz.prog Rows.fnPairDecRow.laid w) false (World.doorLaid Tryz.prog 62 os) #[.slice none 0 0, .slice none 0 0] 8 rfl (World.shaped_of_RefB (by kernel_rfl) (by kernel_rfl)) (by kernel_rfl) (by kernel_rfl) (by kernel_rfl) (wrG os _)) ?_
  intro W base args ds gs before hval0 hW hcnd hsz0 hLH _
  have hval : ∀ (j : Nat) t v, Tryz.f5.params[j]? = some t → args[j]? = some v → Value.okWide Tryz.prog W .any base t v := hval0
  have hW' := hW
  obtain ⟨p, q, hA0, hV, rfl, hfz, hnd⟩ := hW
  have hA : DataW.TrodAll enc Tryz.prog W 0 (fun _ => true) true Tryz.f5.params.toList args.toList ds p := hA0
  rw [Tryz.params5] at hA hval
  obtain ⟨v0, vs0, d0, ds0, p0, q0, hargs, rfl, rfl, h0, r0⟩ := trodAll_cons hA
  obtain ⟨v1, vs1, d1, ds1, p1, q1, rfl, rfl, rfl, h1, r1⟩ := trodAll_cons r0
  obtain ⟨rfl, rfl, rfl⟩ := trodAll_nil r1
  obtain rfl : args = #[v0, v1] := by cases args; simp_all
  obtain ⟨rfl, rfl⟩ := trodVars_none hV
  have k0 := h0
  have lt0 : ∀ x ∈ p0, x.block < W.heap.size := by obtain ⟨m, hm⟩ := k0; exact DataW.trod_lt m _ _ _ hm
  obtain ⟨x0, y0, z0⟩ := wse (t := (.sl (.int .u8))) (by kernel_rfl) (hval 0 22 v0 rfl rfl) h0
  have k1 := h1
  have lt1 : ∀ x ∈ p1, x.block < W.heap.size := by obtain ⟨m, hm⟩ := k1; exact DataW.trod_lt m _ _ _ hm
  obtain ⟨x1, y1, z1⟩ := wse (t := (.sl (.int .u8))) (by kernel_rfl) (hval 1 22 v1 rfl rfl) h1
  have hL : laidMet Tryz.prog Rows.fnPairDecRow.laid W := by
    rw [← MakeChecks.laidMetH_plain _ _ _ (by kernel_rfl)]
    exact hLH
  clear hA0 hval0 hsz0
  refine (walk v0 v1 W x0 x1 z0 z1 y0 y1 hL).mono fun e W' ⟨he, bel⟩ => ?_
  subst he
  exact ⟨_, rfl, _, _, _, [], _, [], hW', trodAll_mk1 (shut_bool Tryz.underlying4 _), (trodAll_cons_mk (Below.trod wpY (by kernel_rfl) (of_decide_eq_true (by kernel_rfl)) k0 bel lt0) (trodAll_cons_mk (Below.trod wpY (by kernel_rfl) (of_decide_eq_true (by kernel_rfl)) k1 bel lt1) trodAll_mk0)), rfl, bel.frame _, fun h => by cases h⟩
theorem over : Rows.fnPairDecRow.holds Tryz.pinned (OpenSpec.ofChange Rows.fnPairDecSpec) :=
  OpenClaim.holds_of_wide 5 Tryz.f5 rfl rfl rfl rfl rfl rfl rfl ⟨rfl, rfl, rfl, rfl, rfl⟩ rfl rfl rfl rfl rfl (by kernel_rfl) Tryz.func5 (by kernel_rfl)
    (of_decide_eq_true (by kernel_rfl)) (by unfold Func.isWrapper; first | (rw [if_pos (by decide +kernel)]; kernel_rfl) | (rw [if_neg (by decide +kernel)]; exact ⟨rfl, rfl⟩))
    (fun os started H enc _ => wt0 os started H enc)
end Go.Proofs.YtnhbcpmmdblkjaaGreatDoor.fnPairDec
namespace Go.Proofs.YtnhbcpmmdblkjaaGreatDoor
set_option maxRecDepth 100000 in
/-- The claim. -/
theorem fnPairDec_holds : Rows.FnPairDecCardSaid :=
  Claim7.holds_tied_plain_at .later [] [.data, .data, .data, .sentinel, .sentinel] true (true, "0fde0308789e0535af9645e8a95b7bee6397c6b74898db810ec2a973721afa9a") true
    fnPairDec.over (fun _ h => by cases h) (by kernel_rfl) (fun _ h => by cases h) fnPairDec_row_tie rfl ⟨rfl, rfl⟩ (by kernel_rfl) rfl
    (fun f fn hf hfn => by
      obtain rfl : f = 5 := Option.some.inj ((show Tryz.prog.funcNamed "loop.example/pinfold/laws.FnPairDec" = some 5 by kernel_rfl).symm.trans hf) |>.symm
      obtain rfl : fn = Tryz.f5 := (Option.some.inj (Tryz.func5.symm.trans hfn)).symm
      exact ⟨by kernel_rfl, fun j t ht => by
        rw [Tryz.params5] at ht
        have hm : t ∈ [22, 22] := by simpa using Array.mem_of_getElem? ht
        have hall : ([22, 22].all fun u => !Tryz.prog.wantsStandIn u) = true := by kernel_rfl
        exact (show Tryz.prog.wantsStandIn t = false by simpa using List.all_eq_true.1 hall t hm)⟩)
    (by kernel_rfl)
end Go.Proofs.YtnhbcpmmdblkjaaGreatDoor
