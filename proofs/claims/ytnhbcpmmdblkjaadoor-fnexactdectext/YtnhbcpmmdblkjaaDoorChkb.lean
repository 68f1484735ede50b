/-
  The functions are what the program computes. Printed by amp.py.
-/
import Derived.Test.YtnhbcpmmdblkjaaDoorChk
namespace Go.Proofs.YtnhbcpmmdblkjaaDoorAm
open Go
noncomputable section
set_option linter.unusedVariables false
set_option linter.unusedSimpArgs false
section
variable (N : Nat) {α : Type}
theorem elaws_eqIntS_L0 (n : Nat) (v : plaws_eqIntS_L0.V) (K : KO α) : runRound env (ct49 N) (ilaws_eqIntS N) 1029 (mkPiece 1029 plaws_eqIntS_L0 (glaws_eqIntS_L0 N n)).run (.block 0 (.loop (codeAt blaws_eqIntS [1, 1, 0, 1, 0, 0]))) (plaws_eqIntS_L0.mk' v) K = glaws_eqIntS_L0 N (n + 1) v K := Eq.trans (b := laws_eqIntS_L0r N (fun y0 y1 y2 => laws_eqIntS_L0 N n y0 y1 y2 (fun o0_0 => K (.ret (.iv .bool o0_0) [])) (K (.normal ⟨[U, U, U, U, U, U, U, U, U, U, U, U, U, U, U, U, U, U, U, U, U, U, U, U, U, U], []⟩))) (fun o0_0 => K (.ret (.iv .bool o0_0) [])) (K (.normal ⟨[U, U, U, U, U, U, U, U, U, U, U, U, U, U, U, U, U, U, U, U, U, U, U, U, U, U], []⟩)) v.1.1 v.1.2.1 v.1.2.2.2.2.2.1) (by kernel_rfl) (by unfold glaws_eqIntS_L0; rw [laws_eqIntS_L0.succ])
theorem olaws_eqIntS_L0 (N : Nat) : PieceOK gd P (ilaws_eqIntS N) (.block 0 (.loop (codeAt blaws_eqIntS [1, 1, 0, 1, 0, 0]))) (mkPiece 1029 plaws_eqIntS_L0 (glaws_eqIntS_L0 N N)) :=
  piece_loop hE hP (hct49 N) (AllOK.of (F := ilaws_eqIntS N) (l := []) (by kernel_rfl) .nil) (fun n {_} => glaws_eqIntS_L0 N n) (fun _ _ => by unfold glaws_eqIntS_L0; rw [laws_eqIntS_L0.zero]) (fun n {_} v K => elaws_eqIntS_L0 N n v K) N
theorem oqlaws_eqIntS_L0 (N : Nat) : PieceOK gd P (ilaws_eqIntS N) (.block 0 (.loop (codeAt blaws_eqIntS [1, 1, 0, 1, 0, 0]))) (qlaws_eqIntS_L0 N) := (olaws_eqIntS_L0 N)
noncomputable def plaws_eqIntS : Pt := ⟨[(.i (.sl (.int .i64))), (.i (.sl (.int .i64)))], []⟩
noncomputable def zlaws_eqIntS (F : type_of% @laws_eqIntS) (v : plaws_eqIntS.V) (K : KF α) : Option α := F N v.1.1 v.1.2.1 (fun o0_0 => K (.iv .bool o0_0) [])
noncomputable def glaws_eqIntS (v : plaws_eqIntS.V) (K : KF α) : Option α := zlaws_eqIntS N @laws_eqIntS v K
theorem elaws_eqIntS (v : plaws_eqIntS.V) (K : KF α) : runFn env (ct49 N) (ilaws_eqIntS N) Tryd.f49 (SP.mkL plaws_eqIntS.slots v.1) (BP.mkL plaws_eqIntS.store v.2) K = glaws_eqIntS N v K := Eq.trans (b := zlaws_eqIntS N @laws_eqIntS.b v K) (by kernel_rfl) (by unfold glaws_eqIntS; rw [laws_eqIntS.eq])
theorem olaws_eqIntS (N : Nat) : CalleeOK gd P 49 (mkCallee false plaws_eqIntS (glaws_eqIntS N)) :=
  callee_ok fun v K h => fn_snd hE hP (hct49 N) Tryd.func49 (by kernel_rfl) (body := blaws_eqIntS) (by kernel_rfl) (by kernel_rfl) (AllOK.of (F := ilaws_eqIntS N) (l := [((.block 0 (.loop (codeAt blaws_eqIntS [1, 1, 0, 1, 0, 0]))), qlaws_eqIntS_L0 N)]) (by kernel_rfl) (.cons (oqlaws_eqIntS_L0 N) .nil)) (loans := BP.mkL plaws_eqIntS.store v.2) rfl ((elaws_eqIntS N v K).trans h)
noncomputable def ct50 (N : Nat) : CT := (49, (mkCallee false plaws_eqIntS (glaws_eqIntS N))) :: ct49 N
theorem hct50 (N : Nat) : CTOK gd P (ct50 N) := .cons (olaws_eqIntS N) (hct49 N)

noncomputable def ilaws_eqFrac (N : Nat) : Fi := { loans := 0, owns := true, results := [.tmp 4], rtys := [4], blks := [], regs := [], masks := [] }
noncomputable def blaws_eqFrac : Code := match Tryd.f15.body with | some c => c | none => .skip
noncomputable def plaws_eqFrac : Pt := ⟨[(.i (.pair .bool (.pair (.sl (.int .i64)) (.pair (.sl (.int .i64)) .unit)))), (.i (.pair .bool (.pair (.sl (.int .i64)) (.pair (.sl (.int .i64)) .unit))))], []⟩
noncomputable def zlaws_eqFrac (F : type_of% @laws_eqFrac) (v : plaws_eqFrac.V) (K : KF α) : Option α := F N v.1.1 v.1.2.1 (fun o0_0 => K (.iv .bool o0_0) [])
noncomputable def glaws_eqFrac (v : plaws_eqFrac.V) (K : KF α) : Option α := zlaws_eqFrac N @laws_eqFrac v K
theorem elaws_eqFrac (v : plaws_eqFrac.V) (K : KF α) : runFn env (ct50 N) (ilaws_eqFrac N) Tryd.f15 (SP.mkL plaws_eqFrac.slots v.1) (BP.mkL plaws_eqFrac.store v.2) K = glaws_eqFrac N v K := Eq.trans (b := zlaws_eqFrac N @laws_eqFrac.b v K) (by kernel_rfl) (by unfold glaws_eqFrac; rw [laws_eqFrac.eq])
theorem olaws_eqFrac (N : Nat) : CalleeOK gd P 15 (mkCallee false plaws_eqFrac (glaws_eqFrac N)) :=
  callee_ok fun v K h => fn_snd hE hP (hct50 N) Tryd.func15 (by kernel_rfl) (body := blaws_eqFrac) (by kernel_rfl) (by kernel_rfl) (AllOK.of (F := ilaws_eqFrac N) (l := []) (by kernel_rfl) .nil) (loans := BP.mkL plaws_eqFrac.store v.2) rfl ((elaws_eqFrac N v K).trans h)
noncomputable def ct51 (N : Nat) : CT := (15, (mkCallee false plaws_eqFrac (glaws_eqFrac N))) :: ct50 N
theorem hct51 (N : Nat) : CTOK gd P (ct51 N) := .cons (olaws_eqFrac N) (hct50 N)

noncomputable def ilaws_FnExactDecText (N : Nat) : Fi := { loans := 0, owns := true, results := [.tmp 2], rtys := [4], blks := [], regs := [], masks := [] }
noncomputable def blaws_FnExactDecText : Code := match Tryd.f4.body with | some c => c | none => .skip
noncomputable def plaws_FnExactDecText : Pt := ⟨[(.i (.pair .bool (.pair (.sl (.int .i64)) (.pair (.sl (.int .i64)) .unit))))], []⟩
noncomputable def zlaws_FnExactDecText (F : type_of% @laws_FnExactDecText) (v : plaws_FnExactDecText.V) (K : KF α) : Option α := F N v.1.1 (fun o0_0 => K (.iv .bool o0_0) [])
noncomputable def glaws_FnExactDecText (v : plaws_FnExactDecText.V) (K : KF α) : Option α := zlaws_FnExactDecText N @laws_FnExactDecText v K
theorem elaws_FnExactDecText (v : plaws_FnExactDecText.V) (K : KF α) : runFn env (ct51 N) (ilaws_FnExactDecText N) Tryd.f4 (SP.mkL plaws_FnExactDecText.slots v.1) (BP.mkL plaws_FnExactDecText.store v.2) K = glaws_FnExactDecText N v K := Eq.trans (b := zlaws_FnExactDecText N @laws_FnExactDecText.b v K) (by kernel_rfl) (by unfold glaws_FnExactDecText; rw [laws_FnExactDecText.eq])
theorem olaws_FnExactDecText (N : Nat) : CalleeOK gd P 4 (mkCallee false plaws_FnExactDecText (glaws_FnExactDecText N)) :=
  callee_ok fun v K h => fn_snd hE hP (hct51 N) Tryd.func4 (by kernel_rfl) (body := blaws_FnExactDecText) (by kernel_rfl) (by kernel_rfl) (AllOK.of (F := ilaws_FnExactDecText N) (l := []) (by kernel_rfl) .nil) (loans := BP.mkL plaws_FnExactDecText.store v.2) rfl ((elaws_FnExactDecText N v K).trans h)
noncomputable def ct52 (N : Nat) : CT := (4, (mkCallee false plaws_FnExactDecText (glaws_FnExactDecText N))) :: ct51 N
theorem hct52 (N : Nat) : CTOK gd P (ct52 N) := .cons (olaws_FnExactDecText N) (hct51 N)

end
end
end Go.Proofs.YtnhbcpmmdblkjaaDoorAm
