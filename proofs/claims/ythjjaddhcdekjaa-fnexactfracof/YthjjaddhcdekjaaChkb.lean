/-
  The functions are what the program computes. Printed by amp.py.
-/
import Derived.Test.YthjjaddhcdekjaaChk
namespace Go.Proofs.YthjjaddhcdekjaaAm
open Go
noncomputable section
set_option linter.unusedVariables false
set_option linter.unusedSimpArgs false
section
variable {gd : Gd}
theorem elaws_markIntS_L0 (N n : Nat) {α : Type} (v : plaws_markIntS_L0.V) (K : Out → Option α) : runRound env (ct41 N) (ilaws_markIntS N) 1029 (mkPiece 1029 plaws_markIntS_L0 (glaws_markIntS_L0 N n)).run (.block 0 (.loop (codeAt blaws_markIntS [1, 0, 1, 0, 0]))) (plaws_markIntS_L0.mk' v) K = glaws_markIntS_L0 N (n + 1) v K := (elaws_markIntS_L0.b N n v K).trans (by unfold glaws_markIntS_L0; rw [laws_markIntS_L0.succ])
theorem olaws_markIntS_L0 (N : Nat) : PieceOK gd P (ilaws_markIntS N) (.block 0 (.loop (codeAt blaws_markIntS [1, 0, 1, 0, 0]))) (mkPiece 1029 plaws_markIntS_L0 (glaws_markIntS_L0 N N)) :=
  piece_loop hE hP (hct41 N) (AllOK.of (F := ilaws_markIntS N) (l := []) (by kernel_rfl) .nil) (fun n {_} => glaws_markIntS_L0 N n) (fun _ _ => by unfold glaws_markIntS_L0; rw [laws_markIntS_L0.zero]) (fun n {_} v K => elaws_markIntS_L0 N n v K) N
theorem oqlaws_markIntS_L0 (N : Nat) : PieceOK gd P (ilaws_markIntS N) (.block 0 (.loop (codeAt blaws_markIntS [1, 0, 1, 0, 0]))) (qlaws_markIntS_L0 N) := (olaws_markIntS_L0 N)
noncomputable def plaws_markIntS : Pt := ⟨[(.o 0), (.i (.int .i64))], [(.arr 3 (.int .i64) false)]⟩
noncomputable def glaws_markIntS (N : Nat) {α : Type} (v : plaws_markIntS.V) (K : HV → List Blk → Option α) : Option α := laws_markIntS N v.1.2.1 v.2.1 (fun o0_0 o0_1 => K (.iv (.int .i64) o0_0) [(.arr 3 (.int .i64) o0_1 false)])
theorem elaws_markIntS.b (N : Nat) {α : Type} (v : plaws_markIntS.V) (K : HV → List Blk → Option α) : runFn env (ct41 N) (ilaws_markIntS N) Try.f25 (SP.mkL plaws_markIntS.slots v.1) (BP.mkL plaws_markIntS.store v.2) K = laws_markIntS.b N v.1.2.1 v.2.1 (fun o0_0 o0_1 => K (.iv (.int .i64) o0_0) [(.arr 3 (.int .i64) o0_1 false)]) := by kernel_rfl
theorem elaws_markIntS (N : Nat) {α : Type} (v : plaws_markIntS.V) (K : HV → List Blk → Option α) : runFn env (ct41 N) (ilaws_markIntS N) Try.f25 (SP.mkL plaws_markIntS.slots v.1) (BP.mkL plaws_markIntS.store v.2) K = glaws_markIntS N v K := (elaws_markIntS.b N v K).trans (by unfold glaws_markIntS; rw [laws_markIntS.eq])
theorem olaws_markIntS (N : Nat) : CalleeOK gd P 25 (mkCallee true plaws_markIntS (glaws_markIntS N)) :=
  callee_ok fun v K h => fn_snd hE hP (hct41 N) Try.func25 (by kernel_rfl) (body := blaws_markIntS) (by kernel_rfl) (by kernel_rfl) (AllOK.of (F := ilaws_markIntS N) (l := [((.block 0 (.loop (codeAt blaws_markIntS [1, 0, 1, 0, 0]))), qlaws_markIntS_L0 N)]) (by kernel_rfl) (.cons (oqlaws_markIntS_L0 N) .nil)) (loans := BP.mkL plaws_markIntS.store v.2) rfl ((elaws_markIntS N v K).trans h)
noncomputable def ct42 (N : Nat) : CT := (25, (mkCallee true plaws_markIntS (glaws_markIntS N))) :: ct41 N
theorem hct42 (N : Nat) : CTOK gd P (ct42 N) := .cons (olaws_markIntS N) (hct41 N)

noncomputable def ilaws_markFrac (N : Nat) : Fi := { loans := 2, owns := true, results := [.tmp 4], rtys := [3], blks := [], regs := [], masks := [] }
noncomputable def blaws_markFrac : Code := match Try.f26.body with | some c => c | none => .skip
noncomputable def plaws_markFrac : Pt := ⟨[(.a [(.i .bool), (.o 0), (.o 1)]), (.i (.int .i64))], [(.arr 3 (.int .i64) false), (.arr 3 (.int .i64) false)]⟩
noncomputable def glaws_markFrac (N : Nat) {α : Type} (v : plaws_markFrac.V) (K : HV → List Blk → Option α) : Option α := laws_markFrac N v.1.1.1 v.1.2.1 v.2.1 v.2.2.1 (fun o0_0 o0_1 o0_2 => K (.iv (.int .i64) o0_0) [(.arr 3 (.int .i64) o0_1 false), (.arr 3 (.int .i64) o0_2 false)])
theorem elaws_markFrac.b (N : Nat) {α : Type} (v : plaws_markFrac.V) (K : HV → List Blk → Option α) : runFn env (ct42 N) (ilaws_markFrac N) Try.f26 (SP.mkL plaws_markFrac.slots v.1) (BP.mkL plaws_markFrac.store v.2) K = laws_markFrac.b N v.1.1.1 v.1.2.1 v.2.1 v.2.2.1 (fun o0_0 o0_1 o0_2 => K (.iv (.int .i64) o0_0) [(.arr 3 (.int .i64) o0_1 false), (.arr 3 (.int .i64) o0_2 false)]) := by kernel_rfl
theorem elaws_markFrac (N : Nat) {α : Type} (v : plaws_markFrac.V) (K : HV → List Blk → Option α) : runFn env (ct42 N) (ilaws_markFrac N) Try.f26 (SP.mkL plaws_markFrac.slots v.1) (BP.mkL plaws_markFrac.store v.2) K = glaws_markFrac N v K := (elaws_markFrac.b N v K).trans (by unfold glaws_markFrac; rw [laws_markFrac.eq])
theorem olaws_markFrac (N : Nat) : CalleeOK gd P 26 (mkCallee true plaws_markFrac (glaws_markFrac N)) :=
  callee_ok fun v K h => fn_snd hE hP (hct42 N) Try.func26 (by kernel_rfl) (body := blaws_markFrac) (by kernel_rfl) (by kernel_rfl) (AllOK.of (F := ilaws_markFrac N) (l := []) (by kernel_rfl) .nil) (loans := BP.mkL plaws_markFrac.store v.2) rfl ((elaws_markFrac N v K).trans h)
noncomputable def ct43 (N : Nat) : CT := (26, (mkCallee true plaws_markFrac (glaws_markFrac N))) :: ct42 N
theorem hct43 (N : Nat) : CTOK gd P (ct43 N) := .cons (olaws_markFrac N) (hct42 N)

noncomputable def plaws_heldIntS_L0 : Pt := ⟨[(.i (.sl (.int .i64))), (.i (.int .i64)), .u, .u, .u, (.i (.int .i64)), .u, .u, .u, .u, .u, .u, .u, .u, .u, .u, .u, .u, .u, .u, .u], []⟩
noncomputable def glaws_heldIntS_L0 (N n : Nat) {α : Type} (v : plaws_heldIntS_L0.V) (K : Out → Option α) : Option α := laws_heldIntS_L0 N n v.1.1 v.1.2.1 v.1.2.2.2.2.2.1 (fun o0_0 => K (.ret (.iv (.int .i64) o0_0) [])) (fun o1_0 => K (.normal ⟨[.undef, (.iv (.int .i64) o1_0), .undef, .undef, .undef, .undef, .undef, .undef, .undef, .undef, .undef, .undef, .undef, .undef, .undef, .undef, .undef, .undef, .undef, .undef, .undef], []⟩))
noncomputable def qlaws_heldIntS_L0 (N : Nat) : Piece := (mkPiece 1029 plaws_heldIntS_L0 (glaws_heldIntS_L0 N N))
noncomputable def ilaws_heldIntS (N : Nat) : Fi := { loans := 0, owns := true, results := [.tmp 4], rtys := [3], blks := [(0, qlaws_heldIntS_L0 N)], regs := [], masks := [(0, 4)] }
noncomputable def blaws_heldIntS : Code := match Try.f57.body with | some c => c | none => .skip
theorem elaws_heldIntS_L0.b (N n : Nat) {α : Type} (v : plaws_heldIntS_L0.V) (K : Out → Option α) : runRound env (ct43 N) (ilaws_heldIntS N) 1029 (mkPiece 1029 plaws_heldIntS_L0 (glaws_heldIntS_L0 N n)).run (.block 0 (.loop (codeAt blaws_heldIntS [1, 0, 1, 0, 0]))) (plaws_heldIntS_L0.mk' v) K = laws_heldIntS_L0r N (fun y0 y1 y2 => laws_heldIntS_L0 N n y0 y1 y2 (fun o0_0 => K (.ret (.iv (.int .i64) o0_0) [])) (fun o1_0 => K (.normal ⟨[.undef, (.iv (.int .i64) o1_0), .undef, .undef, .undef, .undef, .undef, .undef, .undef, .undef, .undef, .undef, .undef, .undef, .undef, .undef, .undef, .undef, .undef, .undef, .undef], []⟩))) (fun o0_0 => K (.ret (.iv (.int .i64) o0_0) [])) (fun o1_0 => K (.normal ⟨[.undef, (.iv (.int .i64) o1_0), .undef, .undef, .undef, .undef, .undef, .undef, .undef, .undef, .undef, .undef, .undef, .undef, .undef, .undef, .undef, .undef, .undef, .undef, .undef], []⟩)) v.1.1 v.1.2.1 v.1.2.2.2.2.2.1 := by kernel_rfl
theorem elaws_heldIntS_L0 (N n : Nat) {α : Type} (v : plaws_heldIntS_L0.V) (K : Out → Option α) : runRound env (ct43 N) (ilaws_heldIntS N) 1029 (mkPiece 1029 plaws_heldIntS_L0 (glaws_heldIntS_L0 N n)).run (.block 0 (.loop (codeAt blaws_heldIntS [1, 0, 1, 0, 0]))) (plaws_heldIntS_L0.mk' v) K = glaws_heldIntS_L0 N (n + 1) v K := (elaws_heldIntS_L0.b N n v K).trans (by unfold glaws_heldIntS_L0; rw [laws_heldIntS_L0.succ])
theorem olaws_heldIntS_L0 (N : Nat) : PieceOK gd P (ilaws_heldIntS N) (.block 0 (.loop (codeAt blaws_heldIntS [1, 0, 1, 0, 0]))) (mkPiece 1029 plaws_heldIntS_L0 (glaws_heldIntS_L0 N N)) :=
  piece_loop hE hP (hct43 N) (AllOK.of (F := ilaws_heldIntS N) (l := []) (by kernel_rfl) .nil) (fun n {_} => glaws_heldIntS_L0 N n) (fun _ _ => by unfold glaws_heldIntS_L0; rw [laws_heldIntS_L0.zero]) (fun n {_} v K => elaws_heldIntS_L0 N n v K) N
theorem oqlaws_heldIntS_L0 (N : Nat) : PieceOK gd P (ilaws_heldIntS N) (.block 0 (.loop (codeAt blaws_heldIntS [1, 0, 1, 0, 0]))) (qlaws_heldIntS_L0 N) := (olaws_heldIntS_L0 N)
noncomputable def plaws_heldIntS : Pt := ⟨[(.i (.sl (.int .i64))), (.i (.int .i64))], []⟩
noncomputable def glaws_heldIntS (N : Nat) {α : Type} (v : plaws_heldIntS.V) (K : HV → List Blk → Option α) : Option α := laws_heldIntS N v.1.1 v.1.2.1 (fun o0_0 => K (.iv (.int .i64) o0_0) [])
theorem elaws_heldIntS.b (N : Nat) {α : Type} (v : plaws_heldIntS.V) (K : HV → List Blk → Option α) : runFn env (ct43 N) (ilaws_heldIntS N) Try.f57 (SP.mkL plaws_heldIntS.slots v.1) (BP.mkL plaws_heldIntS.store v.2) K = laws_heldIntS.b N v.1.1 v.1.2.1 (fun o0_0 => K (.iv (.int .i64) o0_0) []) := by kernel_rfl
theorem elaws_heldIntS (N : Nat) {α : Type} (v : plaws_heldIntS.V) (K : HV → List Blk → Option α) : runFn env (ct43 N) (ilaws_heldIntS N) Try.f57 (SP.mkL plaws_heldIntS.slots v.1) (BP.mkL plaws_heldIntS.store v.2) K = glaws_heldIntS N v K := (elaws_heldIntS.b N v K).trans (by unfold glaws_heldIntS; rw [laws_heldIntS.eq])
theorem olaws_heldIntS (N : Nat) : CalleeOK gd P 57 (mkCallee false plaws_heldIntS (glaws_heldIntS N)) :=
  callee_ok fun v K h => fn_snd hE hP (hct43 N) Try.func57 (by kernel_rfl) (body := blaws_heldIntS) (by kernel_rfl) (by kernel_rfl) (AllOK.of (F := ilaws_heldIntS N) (l := [((.block 0 (.loop (codeAt blaws_heldIntS [1, 0, 1, 0, 0]))), qlaws_heldIntS_L0 N)]) (by kernel_rfl) (.cons (oqlaws_heldIntS_L0 N) .nil)) (loans := BP.mkL plaws_heldIntS.store v.2) rfl ((elaws_heldIntS N v K).trans h)
noncomputable def ct44 (N : Nat) : CT := (57, (mkCallee false plaws_heldIntS (glaws_heldIntS N))) :: ct43 N
theorem hct44 (N : Nat) : CTOK gd P (ct44 N) := .cons (olaws_heldIntS N) (hct43 N)

noncomputable def ilaws_heldFrac (N : Nat) : Fi := { loans := 0, owns := true, results := [.tmp 4], rtys := [3], blks := [], regs := [], masks := [] }
noncomputable def blaws_heldFrac : Code := match Try.f27.body with | some c => c | none => .skip
noncomputable def plaws_heldFrac : Pt := ⟨[(.i (.pair .bool (.pair (.sl (.int .i64)) (.pair (.sl (.int .i64)) .unit)))), (.i (.int .i64))], []⟩
noncomputable def glaws_heldFrac (N : Nat) {α : Type} (v : plaws_heldFrac.V) (K : HV → List Blk → Option α) : Option α := laws_heldFrac N v.1.1 v.1.2.1 (fun o0_0 => K (.iv (.int .i64) o0_0) [])
theorem elaws_heldFrac.b (N : Nat) {α : Type} (v : plaws_heldFrac.V) (K : HV → List Blk → Option α) : runFn env (ct44 N) (ilaws_heldFrac N) Try.f27 (SP.mkL plaws_heldFrac.slots v.1) (BP.mkL plaws_heldFrac.store v.2) K = laws_heldFrac.b N v.1.1 v.1.2.1 (fun o0_0 => K (.iv (.int .i64) o0_0) []) := by kernel_rfl
theorem elaws_heldFrac (N : Nat) {α : Type} (v : plaws_heldFrac.V) (K : HV → List Blk → Option α) : runFn env (ct44 N) (ilaws_heldFrac N) Try.f27 (SP.mkL plaws_heldFrac.slots v.1) (BP.mkL plaws_heldFrac.store v.2) K = glaws_heldFrac N v K := (elaws_heldFrac.b N v K).trans (by unfold glaws_heldFrac; rw [laws_heldFrac.eq])
theorem olaws_heldFrac (N : Nat) : CalleeOK gd P 27 (mkCallee false plaws_heldFrac (glaws_heldFrac N)) :=
  callee_ok fun v K h => fn_snd hE hP (hct44 N) Try.func27 (by kernel_rfl) (body := blaws_heldFrac) (by kernel_rfl) (by kernel_rfl) (AllOK.of (F := ilaws_heldFrac N) (l := []) (by kernel_rfl) .nil) (loans := BP.mkL plaws_heldFrac.store v.2) rfl ((elaws_heldFrac N v K).trans h)
noncomputable def ct45 (N : Nat) : CT := (27, (mkCallee false plaws_heldFrac (glaws_heldFrac N))) :: ct44 N
theorem hct45 (N : Nat) : CTOK gd P (ct45 N) := .cons (olaws_heldFrac N) (hct44 N)

noncomputable def ilaws_FnExactFracOf (N : Nat) : Fi := { loans := 0, owns := true, results := [.tmp 6], rtys := [4], blks := [], regs := [], masks := [] }
noncomputable def blaws_FnExactFracOf : Code := match Try.f5.body with | some c => c | none => .skip
noncomputable def plaws_FnExactFracOf : Pt := ⟨[(.i .bool), (.i (.sl (.int .i64))), (.i (.sl (.int .i64)))], []⟩
noncomputable def glaws_FnExactFracOf (N : Nat) {α : Type} (v : plaws_FnExactFracOf.V) (K : HV → List Blk → Option α) : Option α := laws_FnExactFracOf N v.1.1 v.1.2.1 v.1.2.2.1 (fun o0_0 => K (.iv .bool o0_0) [])
theorem elaws_FnExactFracOf.b (N : Nat) {α : Type} (v : plaws_FnExactFracOf.V) (K : HV → List Blk → Option α) : runFn env (ct45 N) (ilaws_FnExactFracOf N) Try.f5 (SP.mkL plaws_FnExactFracOf.slots v.1) (BP.mkL plaws_FnExactFracOf.store v.2) K = laws_FnExactFracOf.b N v.1.1 v.1.2.1 v.1.2.2.1 (fun o0_0 => K (.iv .bool o0_0) []) := by kernel_rfl
theorem elaws_FnExactFracOf (N : Nat) {α : Type} (v : plaws_FnExactFracOf.V) (K : HV → List Blk → Option α) : runFn env (ct45 N) (ilaws_FnExactFracOf N) Try.f5 (SP.mkL plaws_FnExactFracOf.slots v.1) (BP.mkL plaws_FnExactFracOf.store v.2) K = glaws_FnExactFracOf N v K := (elaws_FnExactFracOf.b N v K).trans (by unfold glaws_FnExactFracOf; rw [laws_FnExactFracOf.eq])
theorem olaws_FnExactFracOf (N : Nat) : CalleeOK gd P 5 (mkCallee false plaws_FnExactFracOf (glaws_FnExactFracOf N)) :=
  callee_ok fun v K h => fn_snd hE hP (hct45 N) Try.func5 (by kernel_rfl) (body := blaws_FnExactFracOf) (by kernel_rfl) (by kernel_rfl) (AllOK.of (F := ilaws_FnExactFracOf N) (l := []) (by kernel_rfl) .nil) (loans := BP.mkL plaws_FnExactFracOf.store v.2) rfl ((elaws_FnExactFracOf N v K).trans h)
noncomputable def ct46 (N : Nat) : CT := (5, (mkCallee false plaws_FnExactFracOf (glaws_FnExactFracOf N))) :: ct45 N
theorem hct46 (N : Nat) : CTOK gd P (ct46 N) := .cons (olaws_FnExactFracOf N) (hct45 N)

end
end
end Go.Proofs.YthjjaddhcdekjaaAm
