/-
  The functions are what the program computes. Printed by amp.py.
-/
import Derived.Test.YtlbihmicbncdiaaChk
namespace Go.Proofs.YtlbihmicbncdiaaAm
open Go
noncomputable section
set_option linter.unusedVariables false
set_option linter.unusedSimpArgs false
section
variable {gd : Gd}
theorem elaws_eqIntS_L0.b (N n : Nat) {α : Type} (v : plaws_eqIntS_L0.V) (K : Out → Option α) : runRound env (ct44 N) (ilaws_eqIntS N) 1029 (mkPiece 1029 plaws_eqIntS_L0 (glaws_eqIntS_L0 N n)).run (.block 0 (.loop (codeAt blaws_eqIntS [1, 1, 0, 1, 0, 0]))) (plaws_eqIntS_L0.mk' v) K = laws_eqIntS_L0r N (fun y0 y1 y2 => laws_eqIntS_L0 N n y0 y1 y2 (fun o0_0 => K (.ret (.iv .bool o0_0) [])) (K (.normal ⟨[.undef, .undef, .undef, .undef, .undef, .undef, .undef, .undef, .undef, .undef, .undef, .undef, .undef, .undef, .undef, .undef, .undef, .undef, .undef, .undef, .undef, .undef, .undef, .undef, .undef, .undef], []⟩))) (fun o0_0 => K (.ret (.iv .bool o0_0) [])) (K (.normal ⟨[.undef, .undef, .undef, .undef, .undef, .undef, .undef, .undef, .undef, .undef, .undef, .undef, .undef, .undef, .undef, .undef, .undef, .undef, .undef, .undef, .undef, .undef, .undef, .undef, .undef, .undef], []⟩)) v.1.1 v.1.2.1 v.1.2.2.2.2.2.1 := by kernel_rfl
theorem elaws_eqIntS_L0 (N n : Nat) {α : Type} (v : plaws_eqIntS_L0.V) (K : Out → Option α) : runRound env (ct44 N) (ilaws_eqIntS N) 1029 (mkPiece 1029 plaws_eqIntS_L0 (glaws_eqIntS_L0 N n)).run (.block 0 (.loop (codeAt blaws_eqIntS [1, 1, 0, 1, 0, 0]))) (plaws_eqIntS_L0.mk' v) K = glaws_eqIntS_L0 N (n + 1) v K := (elaws_eqIntS_L0.b N n v K).trans (by unfold glaws_eqIntS_L0; rw [laws_eqIntS_L0.succ])
theorem olaws_eqIntS_L0 (N : Nat) : PieceOK gd P (ilaws_eqIntS N) (.block 0 (.loop (codeAt blaws_eqIntS [1, 1, 0, 1, 0, 0]))) (mkPiece 1029 plaws_eqIntS_L0 (glaws_eqIntS_L0 N N)) :=
  piece_loop hE hP (hct44 N) (AllOK.of (F := ilaws_eqIntS N) (l := []) (by kernel_rfl) .nil) (fun n {_} => glaws_eqIntS_L0 N n) (fun _ _ => by unfold glaws_eqIntS_L0; rw [laws_eqIntS_L0.zero]) (fun n {_} v K => elaws_eqIntS_L0 N n v K) N
theorem oqlaws_eqIntS_L0 (N : Nat) : PieceOK gd P (ilaws_eqIntS N) (.block 0 (.loop (codeAt blaws_eqIntS [1, 1, 0, 1, 0, 0]))) (qlaws_eqIntS_L0 N) := (olaws_eqIntS_L0 N)
noncomputable def plaws_eqIntS : Pt := ⟨[(.i (.sl (.int .i64))), (.i (.sl (.int .i64)))], []⟩
noncomputable def glaws_eqIntS (N : Nat) {α : Type} (v : plaws_eqIntS.V) (K : HV → List Blk → Option α) : Option α := laws_eqIntS N v.1.1 v.1.2.1 (fun o0_0 => K (.iv .bool o0_0) [])
theorem elaws_eqIntS.b (N : Nat) {α : Type} (v : plaws_eqIntS.V) (K : HV → List Blk → Option α) : runFn env (ct44 N) (ilaws_eqIntS N) Try.f41 (SP.mkL plaws_eqIntS.slots v.1) (BP.mkL plaws_eqIntS.store v.2) K = laws_eqIntS.b N v.1.1 v.1.2.1 (fun o0_0 => K (.iv .bool o0_0) []) := by kernel_rfl
theorem elaws_eqIntS (N : Nat) {α : Type} (v : plaws_eqIntS.V) (K : HV → List Blk → Option α) : runFn env (ct44 N) (ilaws_eqIntS N) Try.f41 (SP.mkL plaws_eqIntS.slots v.1) (BP.mkL plaws_eqIntS.store v.2) K = glaws_eqIntS N v K := (elaws_eqIntS.b N v K).trans (by unfold glaws_eqIntS; rw [laws_eqIntS.eq])
theorem olaws_eqIntS (N : Nat) : CalleeOK gd P 41 (mkCallee false plaws_eqIntS (glaws_eqIntS N)) :=
  callee_ok fun v K h => fn_snd hE hP (hct44 N) Try.func41 (by kernel_rfl) (body := blaws_eqIntS) (by kernel_rfl) (by kernel_rfl) (AllOK.of (F := ilaws_eqIntS N) (l := [((.block 0 (.loop (codeAt blaws_eqIntS [1, 1, 0, 1, 0, 0]))), qlaws_eqIntS_L0 N)]) (by kernel_rfl) (.cons (oqlaws_eqIntS_L0 N) .nil)) (loans := BP.mkL plaws_eqIntS.store v.2) rfl ((elaws_eqIntS N v K).trans h)
noncomputable def ct45 (N : Nat) : CT := (41, (mkCallee false plaws_eqIntS (glaws_eqIntS N))) :: ct44 N
theorem hct45 (N : Nat) : CTOK gd P (ct45 N) := .cons (olaws_eqIntS N) (hct44 N)

noncomputable def ilaws_eqFrac (N : Nat) : Fi := { loans := 0, owns := true, results := [.tmp 4], rtys := [4], blks := [], regs := [], masks := [] }
noncomputable def blaws_eqFrac : Code := match Try.f11.body with | some c => c | none => .skip
noncomputable def plaws_eqFrac : Pt := ⟨[(.i (.pair .bool (.pair (.sl (.int .i64)) (.pair (.sl (.int .i64)) .unit)))), (.i (.pair .bool (.pair (.sl (.int .i64)) (.pair (.sl (.int .i64)) .unit))))], []⟩
noncomputable def glaws_eqFrac (N : Nat) {α : Type} (v : plaws_eqFrac.V) (K : HV → List Blk → Option α) : Option α := laws_eqFrac N v.1.1 v.1.2.1 (fun o0_0 => K (.iv .bool o0_0) [])
theorem elaws_eqFrac.b (N : Nat) {α : Type} (v : plaws_eqFrac.V) (K : HV → List Blk → Option α) : runFn env (ct45 N) (ilaws_eqFrac N) Try.f11 (SP.mkL plaws_eqFrac.slots v.1) (BP.mkL plaws_eqFrac.store v.2) K = laws_eqFrac.b N v.1.1 v.1.2.1 (fun o0_0 => K (.iv .bool o0_0) []) := by kernel_rfl
theorem elaws_eqFrac (N : Nat) {α : Type} (v : plaws_eqFrac.V) (K : HV → List Blk → Option α) : runFn env (ct45 N) (ilaws_eqFrac N) Try.f11 (SP.mkL plaws_eqFrac.slots v.1) (BP.mkL plaws_eqFrac.store v.2) K = glaws_eqFrac N v K := (elaws_eqFrac.b N v K).trans (by unfold glaws_eqFrac; rw [laws_eqFrac.eq])
theorem olaws_eqFrac (N : Nat) : CalleeOK gd P 11 (mkCallee false plaws_eqFrac (glaws_eqFrac N)) :=
  callee_ok fun v K h => fn_snd hE hP (hct45 N) Try.func11 (by kernel_rfl) (body := blaws_eqFrac) (by kernel_rfl) (by kernel_rfl) (AllOK.of (F := ilaws_eqFrac N) (l := []) (by kernel_rfl) .nil) (loans := BP.mkL plaws_eqFrac.store v.2) rfl ((elaws_eqFrac N v K).trans h)
noncomputable def ct46 (N : Nat) : CT := (11, (mkCallee false plaws_eqFrac (glaws_eqFrac N))) :: ct45 N
theorem hct46 (N : Nat) : CTOK gd P (ct46 N) := .cons (olaws_eqFrac N) (hct45 N)

noncomputable def plaws_markIntS_L0 : Pt := ⟨[(.o 0), (.i (.int .i64)), .u, .u, .u, (.i (.int .i64)), .u, .u, .u, .u, .u, .u, .u, .u, .u, .u, .u, .u, .u], [(.arr 3 (.int .i64) false)]⟩
noncomputable def glaws_markIntS_L0 (N n : Nat) {α : Type} (v : plaws_markIntS_L0.V) (K : Out → Option α) : Option α := laws_markIntS_L0 N n v.1.2.1 v.1.2.2.2.2.2.1 v.2.1 (fun o0_0 o0_1 => K (.normal ⟨[.undef, (.iv (.int .i64) o0_0), .undef, .undef, .undef, .undef, .undef, .undef, .undef, .undef, .undef, .undef, .undef, .undef, .undef, .undef, .undef, .undef, .undef], [(.arr 3 (.int .i64) o0_1 false)]⟩))
noncomputable def qlaws_markIntS_L0 (N : Nat) : Piece := (mkPiece 1029 plaws_markIntS_L0 (glaws_markIntS_L0 N N))
noncomputable def ilaws_markIntS (N : Nat) : Fi := { loans := 1, owns := true, results := [.tmp 4], rtys := [3], blks := [(0, qlaws_markIntS_L0 N)], regs := [], masks := [(0, 4)] }
noncomputable def blaws_markIntS : Code := match Try.f42.body with | some c => c | none => .skip
theorem elaws_markIntS_L0.b (N n : Nat) {α : Type} (v : plaws_markIntS_L0.V) (K : Out → Option α) : runRound env (ct46 N) (ilaws_markIntS N) 1029 (mkPiece 1029 plaws_markIntS_L0 (glaws_markIntS_L0 N n)).run (.block 0 (.loop (codeAt blaws_markIntS [1, 0, 1, 0, 0]))) (plaws_markIntS_L0.mk' v) K = laws_markIntS_L0r N (fun y0 y1 y2 => laws_markIntS_L0 N n y0 y1 y2 (fun o0_0 o0_1 => K (.normal ⟨[.undef, (.iv (.int .i64) o0_0), .undef, .undef, .undef, .undef, .undef, .undef, .undef, .undef, .undef, .undef, .undef, .undef, .undef, .undef, .undef, .undef, .undef], [(.arr 3 (.int .i64) o0_1 false)]⟩))) (fun o0_0 o0_1 => K (.normal ⟨[.undef, (.iv (.int .i64) o0_0), .undef, .undef, .undef, .undef, .undef, .undef, .undef, .undef, .undef, .undef, .undef, .undef, .undef, .undef, .undef, .undef, .undef], [(.arr 3 (.int .i64) o0_1 false)]⟩)) v.1.2.1 v.1.2.2.2.2.2.1 v.2.1 := by kernel_rfl
theorem elaws_markIntS_L0 (N n : Nat) {α : Type} (v : plaws_markIntS_L0.V) (K : Out → Option α) : runRound env (ct46 N) (ilaws_markIntS N) 1029 (mkPiece 1029 plaws_markIntS_L0 (glaws_markIntS_L0 N n)).run (.block 0 (.loop (codeAt blaws_markIntS [1, 0, 1, 0, 0]))) (plaws_markIntS_L0.mk' v) K = glaws_markIntS_L0 N (n + 1) v K := (elaws_markIntS_L0.b N n v K).trans (by unfold glaws_markIntS_L0; rw [laws_markIntS_L0.succ])
theorem olaws_markIntS_L0 (N : Nat) : PieceOK gd P (ilaws_markIntS N) (.block 0 (.loop (codeAt blaws_markIntS [1, 0, 1, 0, 0]))) (mkPiece 1029 plaws_markIntS_L0 (glaws_markIntS_L0 N N)) :=
  piece_loop hE hP (hct46 N) (AllOK.of (F := ilaws_markIntS N) (l := []) (by kernel_rfl) .nil) (fun n {_} => glaws_markIntS_L0 N n) (fun _ _ => by unfold glaws_markIntS_L0; rw [laws_markIntS_L0.zero]) (fun n {_} v K => elaws_markIntS_L0 N n v K) N
theorem oqlaws_markIntS_L0 (N : Nat) : PieceOK gd P (ilaws_markIntS N) (.block 0 (.loop (codeAt blaws_markIntS [1, 0, 1, 0, 0]))) (qlaws_markIntS_L0 N) := (olaws_markIntS_L0 N)
noncomputable def plaws_markIntS : Pt := ⟨[(.o 0), (.i (.int .i64))], [(.arr 3 (.int .i64) false)]⟩
noncomputable def glaws_markIntS (N : Nat) {α : Type} (v : plaws_markIntS.V) (K : HV → List Blk → Option α) : Option α := laws_markIntS N v.1.2.1 v.2.1 (fun o0_0 o0_1 => K (.iv (.int .i64) o0_0) [(.arr 3 (.int .i64) o0_1 false)])
theorem elaws_markIntS.b (N : Nat) {α : Type} (v : plaws_markIntS.V) (K : HV → List Blk → Option α) : runFn env (ct46 N) (ilaws_markIntS N) Try.f42 (SP.mkL plaws_markIntS.slots v.1) (BP.mkL plaws_markIntS.store v.2) K = laws_markIntS.b N v.1.2.1 v.2.1 (fun o0_0 o0_1 => K (.iv (.int .i64) o0_0) [(.arr 3 (.int .i64) o0_1 false)]) := by kernel_rfl
theorem elaws_markIntS (N : Nat) {α : Type} (v : plaws_markIntS.V) (K : HV → List Blk → Option α) : runFn env (ct46 N) (ilaws_markIntS N) Try.f42 (SP.mkL plaws_markIntS.slots v.1) (BP.mkL plaws_markIntS.store v.2) K = glaws_markIntS N v K := (elaws_markIntS.b N v K).trans (by unfold glaws_markIntS; rw [laws_markIntS.eq])
theorem olaws_markIntS (N : Nat) : CalleeOK gd P 42 (mkCallee true plaws_markIntS (glaws_markIntS N)) :=
  callee_ok fun v K h => fn_snd hE hP (hct46 N) Try.func42 (by kernel_rfl) (body := blaws_markIntS) (by kernel_rfl) (by kernel_rfl) (AllOK.of (F := ilaws_markIntS N) (l := [((.block 0 (.loop (codeAt blaws_markIntS [1, 0, 1, 0, 0]))), qlaws_markIntS_L0 N)]) (by kernel_rfl) (.cons (oqlaws_markIntS_L0 N) .nil)) (loans := BP.mkL plaws_markIntS.store v.2) rfl ((elaws_markIntS N v K).trans h)
noncomputable def ct47 (N : Nat) : CT := (42, (mkCallee true plaws_markIntS (glaws_markIntS N))) :: ct46 N
theorem hct47 (N : Nat) : CTOK gd P (ct47 N) := .cons (olaws_markIntS N) (hct46 N)

noncomputable def ilaws_markFrac (N : Nat) : Fi := { loans := 2, owns := true, results := [.tmp 4], rtys := [3], blks := [], regs := [], masks := [] }
noncomputable def blaws_markFrac : Code := match Try.f12.body with | some c => c | none => .skip
noncomputable def plaws_markFrac : Pt := ⟨[(.a [(.i .bool), (.o 0), (.o 1)]), (.i (.int .i64))], [(.arr 3 (.int .i64) false), (.arr 3 (.int .i64) false)]⟩
noncomputable def glaws_markFrac (N : Nat) {α : Type} (v : plaws_markFrac.V) (K : HV → List Blk → Option α) : Option α := laws_markFrac N v.1.1.1 v.1.2.1 v.2.1 v.2.2.1 (fun o0_0 o0_1 o0_2 => K (.iv (.int .i64) o0_0) [(.arr 3 (.int .i64) o0_1 false), (.arr 3 (.int .i64) o0_2 false)])
theorem elaws_markFrac.b (N : Nat) {α : Type} (v : plaws_markFrac.V) (K : HV → List Blk → Option α) : runFn env (ct47 N) (ilaws_markFrac N) Try.f12 (SP.mkL plaws_markFrac.slots v.1) (BP.mkL plaws_markFrac.store v.2) K = laws_markFrac.b N v.1.1.1 v.1.2.1 v.2.1 v.2.2.1 (fun o0_0 o0_1 o0_2 => K (.iv (.int .i64) o0_0) [(.arr 3 (.int .i64) o0_1 false), (.arr 3 (.int .i64) o0_2 false)]) := by kernel_rfl
theorem elaws_markFrac (N : Nat) {α : Type} (v : plaws_markFrac.V) (K : HV → List Blk → Option α) : runFn env (ct47 N) (ilaws_markFrac N) Try.f12 (SP.mkL plaws_markFrac.slots v.1) (BP.mkL plaws_markFrac.store v.2) K = glaws_markFrac N v K := (elaws_markFrac.b N v K).trans (by unfold glaws_markFrac; rw [laws_markFrac.eq])
theorem olaws_markFrac (N : Nat) : CalleeOK gd P 12 (mkCallee true plaws_markFrac (glaws_markFrac N)) :=
  callee_ok fun v K h => fn_snd hE hP (hct47 N) Try.func12 (by kernel_rfl) (body := blaws_markFrac) (by kernel_rfl) (by kernel_rfl) (AllOK.of (F := ilaws_markFrac N) (l := []) (by kernel_rfl) .nil) (loans := BP.mkL plaws_markFrac.store v.2) rfl ((elaws_markFrac N v K).trans h)
noncomputable def ct48 (N : Nat) : CT := (12, (mkCallee true plaws_markFrac (glaws_markFrac N))) :: ct47 N
theorem hct48 (N : Nat) : CTOK gd P (ct48 N) := .cons (olaws_markFrac N) (hct47 N)

noncomputable def plaws_heldIntS_L0 : Pt := ⟨[(.i (.sl (.int .i64))), (.i (.int .i64)), .u, .u, .u, (.i (.int .i64)), .u, .u, .u, .u, .u, .u, .u, .u, .u, .u, .u, .u, .u, .u, .u], []⟩
noncomputable def glaws_heldIntS_L0 (N n : Nat) {α : Type} (v : plaws_heldIntS_L0.V) (K : Out → Option α) : Option α := laws_heldIntS_L0 N n v.1.1 v.1.2.1 v.1.2.2.2.2.2.1 (fun o0_0 => K (.ret (.iv (.int .i64) o0_0) [])) (fun o1_0 => K (.normal ⟨[.undef, (.iv (.int .i64) o1_0), .undef, .undef, .undef, .undef, .undef, .undef, .undef, .undef, .undef, .undef, .undef, .undef, .undef, .undef, .undef, .undef, .undef, .undef, .undef], []⟩))
noncomputable def qlaws_heldIntS_L0 (N : Nat) : Piece := (mkPiece 1029 plaws_heldIntS_L0 (glaws_heldIntS_L0 N N))
noncomputable def ilaws_heldIntS (N : Nat) : Fi := { loans := 0, owns := true, results := [.tmp 4], rtys := [3], blks := [(0, qlaws_heldIntS_L0 N)], regs := [], masks := [(0, 4)] }
noncomputable def blaws_heldIntS : Code := match Try.f43.body with | some c => c | none => .skip
theorem elaws_heldIntS_L0.b (N n : Nat) {α : Type} (v : plaws_heldIntS_L0.V) (K : Out → Option α) : runRound env (ct48 N) (ilaws_heldIntS N) 1029 (mkPiece 1029 plaws_heldIntS_L0 (glaws_heldIntS_L0 N n)).run (.block 0 (.loop (codeAt blaws_heldIntS [1, 0, 1, 0, 0]))) (plaws_heldIntS_L0.mk' v) K = laws_heldIntS_L0r N (fun y0 y1 y2 => laws_heldIntS_L0 N n y0 y1 y2 (fun o0_0 => K (.ret (.iv (.int .i64) o0_0) [])) (fun o1_0 => K (.normal ⟨[.undef, (.iv (.int .i64) o1_0), .undef, .undef, .undef, .undef, .undef, .undef, .undef, .undef, .undef, .undef, .undef, .undef, .undef, .undef, .undef, .undef, .undef, .undef, .undef], []⟩))) (fun o0_0 => K (.ret (.iv (.int .i64) o0_0) [])) (fun o1_0 => K (.normal ⟨[.undef, (.iv (.int .i64) o1_0), .undef, .undef, .undef, .undef, .undef, .undef, .undef, .undef, .undef, .undef, .undef, .undef, .undef, .undef, .undef, .undef, .undef, .undef, .undef], []⟩)) v.1.1 v.1.2.1 v.1.2.2.2.2.2.1 := by kernel_rfl
theorem elaws_heldIntS_L0 (N n : Nat) {α : Type} (v : plaws_heldIntS_L0.V) (K : Out → Option α) : runRound env (ct48 N) (ilaws_heldIntS N) 1029 (mkPiece 1029 plaws_heldIntS_L0 (glaws_heldIntS_L0 N n)).run (.block 0 (.loop (codeAt blaws_heldIntS [1, 0, 1, 0, 0]))) (plaws_heldIntS_L0.mk' v) K = glaws_heldIntS_L0 N (n + 1) v K := (elaws_heldIntS_L0.b N n v K).trans (by unfold glaws_heldIntS_L0; rw [laws_heldIntS_L0.succ])
theorem olaws_heldIntS_L0 (N : Nat) : PieceOK gd P (ilaws_heldIntS N) (.block 0 (.loop (codeAt blaws_heldIntS [1, 0, 1, 0, 0]))) (mkPiece 1029 plaws_heldIntS_L0 (glaws_heldIntS_L0 N N)) :=
  piece_loop hE hP (hct48 N) (AllOK.of (F := ilaws_heldIntS N) (l := []) (by kernel_rfl) .nil) (fun n {_} => glaws_heldIntS_L0 N n) (fun _ _ => by unfold glaws_heldIntS_L0; rw [laws_heldIntS_L0.zero]) (fun n {_} v K => elaws_heldIntS_L0 N n v K) N
theorem oqlaws_heldIntS_L0 (N : Nat) : PieceOK gd P (ilaws_heldIntS N) (.block 0 (.loop (codeAt blaws_heldIntS [1, 0, 1, 0, 0]))) (qlaws_heldIntS_L0 N) := (olaws_heldIntS_L0 N)
noncomputable def plaws_heldIntS : Pt := ⟨[(.i (.sl (.int .i64))), (.i (.int .i64))], []⟩
noncomputable def glaws_heldIntS (N : Nat) {α : Type} (v : plaws_heldIntS.V) (K : HV → List Blk → Option α) : Option α := laws_heldIntS N v.1.1 v.1.2.1 (fun o0_0 => K (.iv (.int .i64) o0_0) [])
theorem elaws_heldIntS.b (N : Nat) {α : Type} (v : plaws_heldIntS.V) (K : HV → List Blk → Option α) : runFn env (ct48 N) (ilaws_heldIntS N) Try.f43 (SP.mkL plaws_heldIntS.slots v.1) (BP.mkL plaws_heldIntS.store v.2) K = laws_heldIntS.b N v.1.1 v.1.2.1 (fun o0_0 => K (.iv (.int .i64) o0_0) []) := by kernel_rfl
theorem elaws_heldIntS (N : Nat) {α : Type} (v : plaws_heldIntS.V) (K : HV → List Blk → Option α) : runFn env (ct48 N) (ilaws_heldIntS N) Try.f43 (SP.mkL plaws_heldIntS.slots v.1) (BP.mkL plaws_heldIntS.store v.2) K = glaws_heldIntS N v K := (elaws_heldIntS.b N v K).trans (by unfold glaws_heldIntS; rw [laws_heldIntS.eq])
theorem olaws_heldIntS (N : Nat) : CalleeOK gd P 43 (mkCallee false plaws_heldIntS (glaws_heldIntS N)) :=
  callee_ok fun v K h => fn_snd hE hP (hct48 N) Try.func43 (by kernel_rfl) (body := blaws_heldIntS) (by kernel_rfl) (by kernel_rfl) (AllOK.of (F := ilaws_heldIntS N) (l := [((.block 0 (.loop (codeAt blaws_heldIntS [1, 0, 1, 0, 0]))), qlaws_heldIntS_L0 N)]) (by kernel_rfl) (.cons (oqlaws_heldIntS_L0 N) .nil)) (loans := BP.mkL plaws_heldIntS.store v.2) rfl ((elaws_heldIntS N v K).trans h)
noncomputable def ct49 (N : Nat) : CT := (43, (mkCallee false plaws_heldIntS (glaws_heldIntS N))) :: ct48 N
theorem hct49 (N : Nat) : CTOK gd P (ct49 N) := .cons (olaws_heldIntS N) (hct48 N)

noncomputable def ilaws_heldFrac (N : Nat) : Fi := { loans := 0, owns := true, results := [.tmp 4], rtys := [3], blks := [], regs := [], masks := [] }
noncomputable def blaws_heldFrac : Code := match Try.f13.body with | some c => c | none => .skip
noncomputable def plaws_heldFrac : Pt := ⟨[(.i (.pair .bool (.pair (.sl (.int .i64)) (.pair (.sl (.int .i64)) .unit)))), (.i (.int .i64))], []⟩
noncomputable def glaws_heldFrac (N : Nat) {α : Type} (v : plaws_heldFrac.V) (K : HV → List Blk → Option α) : Option α := laws_heldFrac N v.1.1 v.1.2.1 (fun o0_0 => K (.iv (.int .i64) o0_0) [])
theorem elaws_heldFrac.b (N : Nat) {α : Type} (v : plaws_heldFrac.V) (K : HV → List Blk → Option α) : runFn env (ct49 N) (ilaws_heldFrac N) Try.f13 (SP.mkL plaws_heldFrac.slots v.1) (BP.mkL plaws_heldFrac.store v.2) K = laws_heldFrac.b N v.1.1 v.1.2.1 (fun o0_0 => K (.iv (.int .i64) o0_0) []) := by kernel_rfl
theorem elaws_heldFrac (N : Nat) {α : Type} (v : plaws_heldFrac.V) (K : HV → List Blk → Option α) : runFn env (ct49 N) (ilaws_heldFrac N) Try.f13 (SP.mkL plaws_heldFrac.slots v.1) (BP.mkL plaws_heldFrac.store v.2) K = glaws_heldFrac N v K := (elaws_heldFrac.b N v K).trans (by unfold glaws_heldFrac; rw [laws_heldFrac.eq])
theorem olaws_heldFrac (N : Nat) : CalleeOK gd P 13 (mkCallee false plaws_heldFrac (glaws_heldFrac N)) :=
  callee_ok fun v K h => fn_snd hE hP (hct49 N) Try.func13 (by kernel_rfl) (body := blaws_heldFrac) (by kernel_rfl) (by kernel_rfl) (AllOK.of (F := ilaws_heldFrac N) (l := []) (by kernel_rfl) .nil) (loans := BP.mkL plaws_heldFrac.store v.2) rfl ((elaws_heldFrac N v K).trans h)
noncomputable def ct50 (N : Nat) : CT := (13, (mkCallee false plaws_heldFrac (glaws_heldFrac N))) :: ct49 N
theorem hct50 (N : Nat) : CTOK gd P (ct50 N) := .cons (olaws_heldFrac N) (hct49 N)

noncomputable def ilaws_FnExactFloatFrac (N : Nat) : Fi := { loans := 0, owns := true, results := [.tmp 4], rtys := [4], blks := [], regs := [], masks := [] }
noncomputable def blaws_FnExactFloatFrac : Code := match Try.f3.body with | some c => c | none => .skip
noncomputable def plaws_FnExactFloatFrac : Pt := ⟨[(.i (.int .i64)), (.i (.int .i64))], []⟩
noncomputable def glaws_FnExactFloatFrac (N : Nat) {α : Type} (v : plaws_FnExactFloatFrac.V) (K : HV → List Blk → Option α) : Option α := laws_FnExactFloatFrac N v.1.1 v.1.2.1 (fun o0_0 => K (.iv .bool o0_0) [])
theorem elaws_FnExactFloatFrac.b (N : Nat) {α : Type} (v : plaws_FnExactFloatFrac.V) (K : HV → List Blk → Option α) : runFn env (ct50 N) (ilaws_FnExactFloatFrac N) Try.f3 (SP.mkL plaws_FnExactFloatFrac.slots v.1) (BP.mkL plaws_FnExactFloatFrac.store v.2) K = laws_FnExactFloatFrac.b N v.1.1 v.1.2.1 (fun o0_0 => K (.iv .bool o0_0) []) := by kernel_rfl
theorem elaws_FnExactFloatFrac (N : Nat) {α : Type} (v : plaws_FnExactFloatFrac.V) (K : HV → List Blk → Option α) : runFn env (ct50 N) (ilaws_FnExactFloatFrac N) Try.f3 (SP.mkL plaws_FnExactFloatFrac.slots v.1) (BP.mkL plaws_FnExactFloatFrac.store v.2) K = glaws_FnExactFloatFrac N v K := (elaws_FnExactFloatFrac.b N v K).trans (by unfold glaws_FnExactFloatFrac; rw [laws_FnExactFloatFrac.eq])
theorem olaws_FnExactFloatFrac (N : Nat) : CalleeOK gd P 3 (mkCallee false plaws_FnExactFloatFrac (glaws_FnExactFloatFrac N)) :=
  callee_ok fun v K h => fn_snd hE hP (hct50 N) Try.func3 (by kernel_rfl) (body := blaws_FnExactFloatFrac) (by kernel_rfl) (by kernel_rfl) (AllOK.of (F := ilaws_FnExactFloatFrac N) (l := []) (by kernel_rfl) .nil) (loans := BP.mkL plaws_FnExactFloatFrac.store v.2) rfl ((elaws_FnExactFloatFrac N v K).trans h)
noncomputable def ct51 (N : Nat) : CT := (3, (mkCallee false plaws_FnExactFloatFrac (glaws_FnExactFloatFrac N))) :: ct50 N
theorem hct51 (N : Nat) : CTOK gd P (ct51 N) := .cons (olaws_FnExactFloatFrac N) (hct50 N)

end
end
end Go.Proofs.YtlbihmicbncdiaaAm
