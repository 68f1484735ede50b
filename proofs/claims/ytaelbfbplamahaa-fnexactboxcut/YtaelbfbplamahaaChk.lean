/-
  The functions are what the program computes. Printed by amp.py.
-/
import Derived.Test.YtaelbfbplamahaaFns
import Derived.Test.YtaelbfbplamahaaProg
namespace Go.Proofs.YtaelbfbplamahaaAm
open Go
noncomputable section
set_option linter.unusedVariables false
set_option linter.unusedSimpArgs false
noncomputable abbrev P : Program := Go.Proofs.Try.prog
def env : Env where
  sl := [(39, 23, (.pair (.int .i64) (.pair (.int .i64) .unit))), (44, 24, (.pair (.int .i64) (.pair (.int .i64) .unit)))]
  ty := [(3, (.int .i64)), (4, .bool), (23, (.pair (.int .i64) (.pair (.int .i64) .unit))), (24, (.pair (.int .i64) (.pair (.int .i64) .unit))), (35, (.int .u64)), (39, (.sl (.pair (.int .i64) (.pair (.int .i64) .unit)))), (41, (.pair (.sl (.pair (.int .i64) (.pair (.int .i64) .unit))) .unit)), (44, (.sl (.pair (.int .i64) (.pair (.int .i64) .unit)))), (46, (.pair (.sl (.pair (.int .i64) (.pair (.int .i64) .unit))) .unit)), (84, (.pair (.int .i64) (.pair (.int .i64) (.pair (.int .i64) (.pair (.int .i64) .unit)))))]
  lay := [(3, 1, false), (23, 2, true), (24, 2, true), (39, 1, false), (41, 1, true), (44, 1, false), (46, 1, true), (84, 4, true)]
  fo := [(23, [0, 1]), (24, [0, 1]), (41, [0]), (46, [0]), (84, [0, 1, 2, 3])]
  lim := [(24, 8796093022208)]
  zs := [(46, [24])]
  eqs := []
theorem hE : EnvOK P env := envB_ok (by kernel_rfl) (eqs_ok (by kernel_rfl))
theorem hP : P.follows .mixedOrders = true := by kernel_rfl

section
variable {gd : Gd}
noncomputable def ct0 (N : Nat) : CT := []
theorem hct0 (N : Nat) : CTOK gd P (ct0 N) := .nil
noncomputable def ilaws_szPairS (N : Nat) : Fi := { loans := 0, owns := false, results := [.tmp 4], rtys := [3], blks := [], regs := [], masks := [] }
noncomputable def blaws_szPairS : Code := match Try.f55.body with | some c => c | none => .skip
noncomputable def plaws_szPairS : Pt := ⟨[(.i (.sl (.pair (.int .i64) (.pair (.int .i64) .unit)))), (.i (.int .i64))], []⟩
noncomputable def glaws_szPairS (N : Nat) {α : Type} (v : plaws_szPairS.V) (K : HV → List Blk → Option α) : Option α := laws_szPairS N v.1.1 v.1.2.1 (fun o0_0 => K (.iv (.int .i64) o0_0) [])
theorem elaws_szPairS.b (N : Nat) {α : Type} (v : plaws_szPairS.V) (K : HV → List Blk → Option α) : runFn env (ct0 N) (ilaws_szPairS N) Try.f55 (SP.mkL plaws_szPairS.slots v.1) (BP.mkL plaws_szPairS.store v.2) K = laws_szPairS.b N v.1.1 v.1.2.1 (fun o0_0 => K (.iv (.int .i64) o0_0) []) := by kernel_rfl
theorem elaws_szPairS (N : Nat) {α : Type} (v : plaws_szPairS.V) (K : HV → List Blk → Option α) : runFn env (ct0 N) (ilaws_szPairS N) Try.f55 (SP.mkL plaws_szPairS.slots v.1) (BP.mkL plaws_szPairS.store v.2) K = glaws_szPairS N v K := (elaws_szPairS.b N v K).trans (by unfold glaws_szPairS; rw [laws_szPairS.eq])
theorem olaws_szPairS (N : Nat) : CalleeOK gd P 55 (mkCallee false plaws_szPairS (glaws_szPairS N)) :=
  callee_ok fun v K h => fn_snd hE hP (hct0 N) Try.func55 (by kernel_rfl) (body := blaws_szPairS) (by kernel_rfl) (by kernel_rfl) (AllOK.of (F := ilaws_szPairS N) (l := []) (by kernel_rfl) .nil) (loans := BP.mkL plaws_szPairS.store v.2) rfl ((elaws_szPairS N v K).trans h)
noncomputable def ct1 (N : Nat) : CT := (55, (mkCallee false plaws_szPairS (glaws_szPairS N))) :: ct0 N
theorem hct1 (N : Nat) : CTOK gd P (ct1 N) := .cons (olaws_szPairS N) (hct0 N)

noncomputable def ilaws_szBox (N : Nat) : Fi := { loans := 0, owns := false, results := [.tmp 4], rtys := [3], blks := [], regs := [], masks := [] }
noncomputable def blaws_szBox : Code := match Try.f25.body with | some c => c | none => .skip
noncomputable def plaws_szBox : Pt := ⟨[(.i (.pair (.sl (.pair (.int .i64) (.pair (.int .i64) .unit))) .unit)), (.i (.int .i64))], []⟩
noncomputable def glaws_szBox (N : Nat) {α : Type} (v : plaws_szBox.V) (K : HV → List Blk → Option α) : Option α := laws_szBox N v.1.1 v.1.2.1 (fun o0_0 => K (.iv (.int .i64) o0_0) [])
theorem elaws_szBox.b (N : Nat) {α : Type} (v : plaws_szBox.V) (K : HV → List Blk → Option α) : runFn env (ct1 N) (ilaws_szBox N) Try.f25 (SP.mkL plaws_szBox.slots v.1) (BP.mkL plaws_szBox.store v.2) K = laws_szBox.b N v.1.1 v.1.2.1 (fun o0_0 => K (.iv (.int .i64) o0_0) []) := by kernel_rfl
theorem elaws_szBox (N : Nat) {α : Type} (v : plaws_szBox.V) (K : HV → List Blk → Option α) : runFn env (ct1 N) (ilaws_szBox N) Try.f25 (SP.mkL plaws_szBox.slots v.1) (BP.mkL plaws_szBox.store v.2) K = glaws_szBox N v K := (elaws_szBox.b N v K).trans (by unfold glaws_szBox; rw [laws_szBox.eq])
theorem olaws_szBox (N : Nat) : CalleeOK gd P 25 (mkCallee false plaws_szBox (glaws_szBox N)) :=
  callee_ok fun v K h => fn_snd hE hP (hct1 N) Try.func25 (by kernel_rfl) (body := blaws_szBox) (by kernel_rfl) (by kernel_rfl) (AllOK.of (F := ilaws_szBox N) (l := []) (by kernel_rfl) .nil) (loans := BP.mkL plaws_szBox.store v.2) rfl ((elaws_szBox N v K).trans h)
noncomputable def ct2 (N : Nat) : CT := (25, (mkCallee false plaws_szBox (glaws_szBox N))) :: ct1 N
theorem hct2 (N : Nat) : CTOK gd P (ct2 N) := .cons (olaws_szBox N) (hct1 N)

noncomputable def ilaws_toPair (N : Nat) : Fi := { loans := 0, owns := true, results := [.cell 2 24], rtys := [24], blks := [], regs := [], masks := [] }
noncomputable def blaws_toPair : Code := match Try.f15.body with | some c => c | none => .skip
noncomputable def plaws_toPair : Pt := ⟨[(.i (.pair (.int .i64) (.pair (.int .i64) .unit)))], []⟩
noncomputable def glaws_toPair (N : Nat) {α : Type} (v : plaws_toPair.V) (K : HV → List Blk → Option α) : Option α := laws_toPair N v.1.1 (fun o0_0 => K (.iv (.pair (.int .i64) (.pair (.int .i64) .unit)) o0_0) [])
theorem elaws_toPair.b (N : Nat) {α : Type} (v : plaws_toPair.V) (K : HV → List Blk → Option α) : runFn env (ct2 N) (ilaws_toPair N) Try.f15 (SP.mkL plaws_toPair.slots v.1) (BP.mkL plaws_toPair.store v.2) K = laws_toPair.b N v.1.1 (fun o0_0 => K (.iv (.pair (.int .i64) (.pair (.int .i64) .unit)) o0_0) []) := by kernel_rfl
theorem elaws_toPair (N : Nat) {α : Type} (v : plaws_toPair.V) (K : HV → List Blk → Option α) : runFn env (ct2 N) (ilaws_toPair N) Try.f15 (SP.mkL plaws_toPair.slots v.1) (BP.mkL plaws_toPair.store v.2) K = glaws_toPair N v K := (elaws_toPair.b N v K).trans (by unfold glaws_toPair; rw [laws_toPair.eq])
theorem olaws_toPair (N : Nat) : CalleeOK gd P 15 (mkCallee false plaws_toPair (glaws_toPair N)) :=
  callee_ok fun v K h => fn_snd hE hP (hct2 N) Try.func15 (by kernel_rfl) (body := blaws_toPair) (by kernel_rfl) (by kernel_rfl) (AllOK.of (F := ilaws_toPair N) (l := []) (by kernel_rfl) .nil) (loans := BP.mkL plaws_toPair.store v.2) rfl ((elaws_toPair N v K).trans h)
noncomputable def ct3 (N : Nat) : CT := (15, (mkCallee false plaws_toPair (glaws_toPair N))) :: ct2 N
theorem hct3 (N : Nat) : CTOK gd P (ct3 N) := .cons (olaws_toPair N) (hct2 N)

noncomputable def plaws_toPairS_L0 : Pt := ⟨[(.i (.sl (.pair (.int .i64) (.pair (.int .i64) .unit)))), .u, .u, (.o 0), (.i (.int .i64)), .u, .u, .u, .u, .u, .u, .u, .u, .u, .u, .u, .u, .u, .u, .u, .u, .u, .u], [(.arr 24 (.pair (.int .i64) (.pair (.int .i64) .unit)) false)]⟩
noncomputable def glaws_toPairS_L0 (N n : Nat) {α : Type} (v : plaws_toPairS_L0.V) (K : Out → Option α) : Option α := laws_toPairS_L0 N n v.1.1 v.1.2.2.2.2.1 v.2.1 (fun o0_0 => K (.normal ⟨[.undef, .undef, .undef, (.own 0), .undef, .undef, .undef, .undef, .undef, .undef, .undef, .undef, .undef, .undef, .undef, .undef, .undef, .undef, .undef, .undef, .undef, .undef, .undef], [(.arr 24 (.pair (.int .i64) (.pair (.int .i64) .unit)) o0_0 false)]⟩))
noncomputable def qlaws_toPairS_L0 (N : Nat) : Piece := (mkPiece 25 plaws_toPairS_L0 (glaws_toPairS_L0 N N))
noncomputable def ilaws_toPairS (N : Nat) : Fi := { loans := 0, owns := true, results := [.tmp 2], rtys := [44], blks := [(0, qlaws_toPairS_L0 N)], regs := [], masks := [(0, 8)] }
noncomputable def blaws_toPairS : Code := match Try.f57.body with | some c => c | none => .skip
theorem elaws_toPairS_L0.b (N n : Nat) {α : Type} (v : plaws_toPairS_L0.V) (K : Out → Option α) : runRound env (ct3 N) (ilaws_toPairS N) 25 (mkPiece 25 plaws_toPairS_L0 (glaws_toPairS_L0 N n)).run (.block 0 (.loop (codeAt blaws_toPairS [1, 1, 0, 1, 0, 0]))) (plaws_toPairS_L0.mk' v) K = laws_toPairS_L0r N (fun y0 y1 y2 => laws_toPairS_L0 N n y0 y1 y2 (fun o0_0 => K (.normal ⟨[.undef, .undef, .undef, (.own 0), .undef, .undef, .undef, .undef, .undef, .undef, .undef, .undef, .undef, .undef, .undef, .undef, .undef, .undef, .undef, .undef, .undef, .undef, .undef], [(.arr 24 (.pair (.int .i64) (.pair (.int .i64) .unit)) o0_0 false)]⟩))) (fun o0_0 => K (.normal ⟨[.undef, .undef, .undef, (.own 0), .undef, .undef, .undef, .undef, .undef, .undef, .undef, .undef, .undef, .undef, .undef, .undef, .undef, .undef, .undef, .undef, .undef, .undef, .undef], [(.arr 24 (.pair (.int .i64) (.pair (.int .i64) .unit)) o0_0 false)]⟩)) v.1.1 v.1.2.2.2.2.1 v.2.1 := by kernel_rfl
theorem elaws_toPairS_L0 (N n : Nat) {α : Type} (v : plaws_toPairS_L0.V) (K : Out → Option α) : runRound env (ct3 N) (ilaws_toPairS N) 25 (mkPiece 25 plaws_toPairS_L0 (glaws_toPairS_L0 N n)).run (.block 0 (.loop (codeAt blaws_toPairS [1, 1, 0, 1, 0, 0]))) (plaws_toPairS_L0.mk' v) K = glaws_toPairS_L0 N (n + 1) v K := (elaws_toPairS_L0.b N n v K).trans (by unfold glaws_toPairS_L0; rw [laws_toPairS_L0.succ])
theorem olaws_toPairS_L0 (N : Nat) : PieceOK gd P (ilaws_toPairS N) (.block 0 (.loop (codeAt blaws_toPairS [1, 1, 0, 1, 0, 0]))) (mkPiece 25 plaws_toPairS_L0 (glaws_toPairS_L0 N N)) :=
  piece_loop hE hP (hct3 N) (AllOK.of (F := ilaws_toPairS N) (l := []) (by kernel_rfl) .nil) (fun n {_} => glaws_toPairS_L0 N n) (fun _ _ => by unfold glaws_toPairS_L0; rw [laws_toPairS_L0.zero]) (fun n {_} v K => elaws_toPairS_L0 N n v K) N
theorem oqlaws_toPairS_L0 (N : Nat) : PieceOK gd P (ilaws_toPairS N) (.block 0 (.loop (codeAt blaws_toPairS [1, 1, 0, 1, 0, 0]))) (qlaws_toPairS_L0 N) := (olaws_toPairS_L0 N)
noncomputable def plaws_toPairS : Pt := ⟨[(.i (.sl (.pair (.int .i64) (.pair (.int .i64) .unit))))], []⟩
noncomputable def glaws_toPairS (N : Nat) {α : Type} (v : plaws_toPairS.V) (K : HV → List Blk → Option α) : Option α := laws_toPairS N v.1.1 (fun o0_0 => K (.own 0) [(.arr 24 (.pair (.int .i64) (.pair (.int .i64) .unit)) o0_0 false)])
theorem elaws_toPairS.b (N : Nat) {α : Type} (v : plaws_toPairS.V) (K : HV → List Blk → Option α) : runFn env (ct3 N) (ilaws_toPairS N) Try.f57 (SP.mkL plaws_toPairS.slots v.1) (BP.mkL plaws_toPairS.store v.2) K = laws_toPairS.b N v.1.1 (fun o0_0 => K (.own 0) [(.arr 24 (.pair (.int .i64) (.pair (.int .i64) .unit)) o0_0 false)]) := by kernel_rfl
theorem elaws_toPairS (N : Nat) {α : Type} (v : plaws_toPairS.V) (K : HV → List Blk → Option α) : runFn env (ct3 N) (ilaws_toPairS N) Try.f57 (SP.mkL plaws_toPairS.slots v.1) (BP.mkL plaws_toPairS.store v.2) K = glaws_toPairS N v K := (elaws_toPairS.b N v K).trans (by unfold glaws_toPairS; rw [laws_toPairS.eq])
theorem olaws_toPairS (N : Nat) : CalleeOK gd P 57 (mkCallee false plaws_toPairS (glaws_toPairS N)) :=
  callee_ok fun v K h => fn_snd hE hP (hct3 N) Try.func57 (by kernel_rfl) (body := blaws_toPairS) (by kernel_rfl) (by kernel_rfl) (AllOK.of (F := ilaws_toPairS N) (l := [((.block 0 (.loop (codeAt blaws_toPairS [1, 1, 0, 1, 0, 0]))), qlaws_toPairS_L0 N)]) (by kernel_rfl) (.cons (oqlaws_toPairS_L0 N) .nil)) (loans := BP.mkL plaws_toPairS.store v.2) rfl ((elaws_toPairS N v K).trans h)
noncomputable def ct4 (N : Nat) : CT := (57, (mkCallee false plaws_toPairS (glaws_toPairS N))) :: ct3 N
theorem hct4 (N : Nat) : CTOK gd P (ct4 N) := .cons (olaws_toPairS N) (hct3 N)

noncomputable def ilaws_toBox (N : Nat) : Fi := { loans := 0, owns := true, results := [.cell 2 46], rtys := [46], blks := [], regs := [], masks := [] }
noncomputable def blaws_toBox : Code := match Try.f27.body with | some c => c | none => .skip
noncomputable def plaws_toBox : Pt := ⟨[(.i (.pair (.sl (.pair (.int .i64) (.pair (.int .i64) .unit))) .unit))], []⟩
noncomputable def glaws_toBox (N : Nat) {α : Type} (v : plaws_toBox.V) (K : HV → List Blk → Option α) : Option α := laws_toBox N v.1.1 (fun o0_0 => K (.agg [(.own 0)]) [(.arr 24 (.pair (.int .i64) (.pair (.int .i64) .unit)) o0_0 false)])
theorem elaws_toBox.b (N : Nat) {α : Type} (v : plaws_toBox.V) (K : HV → List Blk → Option α) : runFn env (ct4 N) (ilaws_toBox N) Try.f27 (SP.mkL plaws_toBox.slots v.1) (BP.mkL plaws_toBox.store v.2) K = laws_toBox.b N v.1.1 (fun o0_0 => K (.agg [(.own 0)]) [(.arr 24 (.pair (.int .i64) (.pair (.int .i64) .unit)) o0_0 false)]) := by kernel_rfl
theorem elaws_toBox (N : Nat) {α : Type} (v : plaws_toBox.V) (K : HV → List Blk → Option α) : runFn env (ct4 N) (ilaws_toBox N) Try.f27 (SP.mkL plaws_toBox.slots v.1) (BP.mkL plaws_toBox.store v.2) K = glaws_toBox N v K := (elaws_toBox.b N v K).trans (by unfold glaws_toBox; rw [laws_toBox.eq])
theorem olaws_toBox (N : Nat) : CalleeOK gd P 27 (mkCallee false plaws_toBox (glaws_toBox N)) :=
  callee_ok fun v K h => fn_snd hE hP (hct4 N) Try.func27 (by kernel_rfl) (body := blaws_toBox) (by kernel_rfl) (by kernel_rfl) (AllOK.of (F := ilaws_toBox N) (l := []) (by kernel_rfl) .nil) (loans := BP.mkL plaws_toBox.store v.2) rfl ((elaws_toBox N v K).trans h)
noncomputable def ct5 (N : Nat) : CT := (27, (mkCallee false plaws_toBox (glaws_toBox N))) :: ct4 N
theorem hct5 (N : Nat) : CTOK gd P (ct5 N) := .cons (olaws_toBox N) (hct4 N)

noncomputable def ispec_BitTop (N : Nat) : Fi := { loans := 0, owns := false, results := [.tmp 2], rtys := [3], blks := [], regs := [], masks := [] }
noncomputable def bspec_BitTop : Code := match Try.f75.body with | some c => c | none => .skip
noncomputable def pspec_BitTop : Pt := ⟨[(.i (.int .i64))], []⟩
noncomputable def gspec_BitTop (N : Nat) {α : Type} (v : pspec_BitTop.V) (K : HV → List Blk → Option α) : Option α := spec_BitTop N v.1.1 (fun o0_0 => K (.iv (.int .i64) o0_0) [])
theorem espec_BitTop.b (N : Nat) {α : Type} (v : pspec_BitTop.V) (K : HV → List Blk → Option α) : runFn env (ct5 N) (ispec_BitTop N) Try.f75 (SP.mkL pspec_BitTop.slots v.1) (BP.mkL pspec_BitTop.store v.2) K = spec_BitTop.b N v.1.1 (fun o0_0 => K (.iv (.int .i64) o0_0) []) := by kernel_rfl
theorem espec_BitTop (N : Nat) {α : Type} (v : pspec_BitTop.V) (K : HV → List Blk → Option α) : runFn env (ct5 N) (ispec_BitTop N) Try.f75 (SP.mkL pspec_BitTop.slots v.1) (BP.mkL pspec_BitTop.store v.2) K = gspec_BitTop N v K := (espec_BitTop.b N v K).trans (by unfold gspec_BitTop; rw [spec_BitTop.eq])
theorem ospec_BitTop (N : Nat) : CalleeOK gd P 75 (mkCallee false pspec_BitTop (gspec_BitTop N)) :=
  callee_ok fun v K h => fn_snd hE hP (hct5 N) Try.func75 (by kernel_rfl) (body := bspec_BitTop) (by kernel_rfl) (by kernel_rfl) (AllOK.of (F := ispec_BitTop N) (l := []) (by kernel_rfl) .nil) (loans := BP.mkL pspec_BitTop.store v.2) rfl ((espec_BitTop N v K).trans h)
noncomputable def ct6 (N : Nat) : CT := (75, (mkCallee false pspec_BitTop (gspec_BitTop N))) :: ct5 N
theorem hct6 (N : Nat) : CTOK gd P (ct6 N) := .cons (ospec_BitTop N) (hct5 N)

noncomputable def ispec_l1Width (N : Nat) : Fi := { loans := 0, owns := false, results := [.tmp 2], rtys := [4], blks := [], regs := [], masks := [] }
noncomputable def bspec_l1Width : Code := match Try.f87.body with | some c => c | none => .skip
noncomputable def pspec_l1Width : Pt := ⟨[(.i (.int .i64))], []⟩
noncomputable def gspec_l1Width (N : Nat) {α : Type} (v : pspec_l1Width.V) (K : HV → List Blk → Option α) : Option α := spec_l1Width N v.1.1 (fun o0_0 => K (.iv .bool o0_0) [])
theorem espec_l1Width.b (N : Nat) {α : Type} (v : pspec_l1Width.V) (K : HV → List Blk → Option α) : runFn env (ct6 N) (ispec_l1Width N) Try.f87 (SP.mkL pspec_l1Width.slots v.1) (BP.mkL pspec_l1Width.store v.2) K = spec_l1Width.b N v.1.1 (fun o0_0 => K (.iv .bool o0_0) []) := by kernel_rfl
theorem espec_l1Width (N : Nat) {α : Type} (v : pspec_l1Width.V) (K : HV → List Blk → Option α) : runFn env (ct6 N) (ispec_l1Width N) Try.f87 (SP.mkL pspec_l1Width.slots v.1) (BP.mkL pspec_l1Width.store v.2) K = gspec_l1Width N v K := (espec_l1Width.b N v K).trans (by unfold gspec_l1Width; rw [spec_l1Width.eq])
theorem ospec_l1Width (N : Nat) : CalleeOK gd P 87 (mkCallee false pspec_l1Width (gspec_l1Width N)) :=
  callee_ok fun v K h => fn_snd hE hP (hct6 N) Try.func87 (by kernel_rfl) (body := bspec_l1Width) (by kernel_rfl) (by kernel_rfl) (AllOK.of (F := ispec_l1Width N) (l := []) (by kernel_rfl) .nil) (loans := BP.mkL pspec_l1Width.store v.2) rfl ((espec_l1Width N v K).trans h)
noncomputable def ct7 (N : Nat) : CT := (87, (mkCallee false pspec_l1Width (gspec_l1Width N))) :: ct6 N
theorem hct7 (N : Nat) : CTOK gd P (ct7 N) := .cons (ospec_l1Width N) (hct6 N)

noncomputable def ispec_BitOk (N : Nat) : Fi := { loans := 0, owns := false, results := [.tmp 4], rtys := [4], blks := [], regs := [], masks := [] }
noncomputable def bspec_BitOk : Code := match Try.f76.body with | some c => c | none => .skip
noncomputable def pspec_BitOk : Pt := ⟨[(.i (.int .i64)), (.i (.int .i64))], []⟩
noncomputable def gspec_BitOk (N : Nat) {α : Type} (v : pspec_BitOk.V) (K : HV → List Blk → Option α) : Option α := spec_BitOk N v.1.1 v.1.2.1 (fun o0_0 => K (.iv .bool o0_0) [])
theorem espec_BitOk.b (N : Nat) {α : Type} (v : pspec_BitOk.V) (K : HV → List Blk → Option α) : runFn env (ct7 N) (ispec_BitOk N) Try.f76 (SP.mkL pspec_BitOk.slots v.1) (BP.mkL pspec_BitOk.store v.2) K = spec_BitOk.b N v.1.1 v.1.2.1 (fun o0_0 => K (.iv .bool o0_0) []) := by kernel_rfl
theorem espec_BitOk (N : Nat) {α : Type} (v : pspec_BitOk.V) (K : HV → List Blk → Option α) : runFn env (ct7 N) (ispec_BitOk N) Try.f76 (SP.mkL pspec_BitOk.slots v.1) (BP.mkL pspec_BitOk.store v.2) K = gspec_BitOk N v K := (espec_BitOk.b N v K).trans (by unfold gspec_BitOk; rw [spec_BitOk.eq])
theorem ospec_BitOk (N : Nat) : CalleeOK gd P 76 (mkCallee false pspec_BitOk (gspec_BitOk N)) :=
  callee_ok fun v K h => fn_snd hE hP (hct7 N) Try.func76 (by kernel_rfl) (body := bspec_BitOk) (by kernel_rfl) (by kernel_rfl) (AllOK.of (F := ispec_BitOk N) (l := []) (by kernel_rfl) .nil) (loans := BP.mkL pspec_BitOk.store v.2) rfl ((espec_BitOk N v K).trans h)
noncomputable def ct8 (N : Nat) : CT := (76, (mkCallee false pspec_BitOk (gspec_BitOk N))) :: ct7 N
theorem hct8 (N : Nat) : CTOK gd P (ct8 N) := .cons (ospec_BitOk N) (hct7 N)

noncomputable def ispec_PairOk (N : Nat) : Fi := { loans := 0, owns := false, results := [.tmp 4], rtys := [4], blks := [], regs := [], masks := [] }
noncomputable def bspec_PairOk : Code := match Try.f45.body with | some c => c | none => .skip
noncomputable def pspec_PairOk : Pt := ⟨[(.i (.int .i64)), (.i (.pair (.int .i64) (.pair (.int .i64) .unit)))], []⟩
noncomputable def gspec_PairOk (N : Nat) {α : Type} (v : pspec_PairOk.V) (K : HV → List Blk → Option α) : Option α := spec_PairOk N v.1.1 v.1.2.1 (fun o0_0 => K (.iv .bool o0_0) [])
theorem espec_PairOk.b (N : Nat) {α : Type} (v : pspec_PairOk.V) (K : HV → List Blk → Option α) : runFn env (ct8 N) (ispec_PairOk N) Try.f45 (SP.mkL pspec_PairOk.slots v.1) (BP.mkL pspec_PairOk.store v.2) K = spec_PairOk.b N v.1.1 v.1.2.1 (fun o0_0 => K (.iv .bool o0_0) []) := by kernel_rfl
theorem espec_PairOk (N : Nat) {α : Type} (v : pspec_PairOk.V) (K : HV → List Blk → Option α) : runFn env (ct8 N) (ispec_PairOk N) Try.f45 (SP.mkL pspec_PairOk.slots v.1) (BP.mkL pspec_PairOk.store v.2) K = gspec_PairOk N v K := (espec_PairOk.b N v K).trans (by unfold gspec_PairOk; rw [spec_PairOk.eq])
theorem ospec_PairOk (N : Nat) : CalleeOK gd P 45 (mkCallee false pspec_PairOk (gspec_PairOk N)) :=
  callee_ok fun v K h => fn_snd hE hP (hct8 N) Try.func45 (by kernel_rfl) (body := bspec_PairOk) (by kernel_rfl) (by kernel_rfl) (AllOK.of (F := ispec_PairOk N) (l := []) (by kernel_rfl) .nil) (loans := BP.mkL pspec_PairOk.store v.2) rfl ((espec_PairOk N v K).trans h)
noncomputable def ct9 (N : Nat) : CT := (45, (mkCallee false pspec_PairOk (gspec_PairOk N))) :: ct8 N
theorem hct9 (N : Nat) : CTOK gd P (ct9 N) := .cons (ospec_PairOk N) (hct8 N)

noncomputable def pspec_BoxOk_L0 : Pt := ⟨[(.i (.int .i64)), .u, .u, (.p 0 [] 0), .u, (.i (.int .i64)), .u, .u, .u, .u, .u, .u, .u, .u, .u, .u, .u, .u, .u, .u, .u, .u, .u, .u, .u, .u, .u, .u, .u, .u, .u], [(.box 46 (.i (.pair (.sl (.pair (.int .i64) (.pair (.int .i64) .unit))) .unit)) false)]⟩
noncomputable def gspec_BoxOk_L0 (N n : Nat) {α : Type} (v : pspec_BoxOk_L0.V) (K : Out → Option α) : Option α := spec_BoxOk_L0 N n v.1.1 v.1.2.2.2.2.2.1 v.2.1 (fun o0_0 => K (.ret (.iv .bool o0_0) [])) (K (.normal ⟨[.undef, .undef, .undef, .undef, .undef, .undef, .undef, .undef, .undef, .undef, .undef, .undef, .undef, .undef, .undef, .undef, .undef, .undef, .undef, .undef, .undef, .undef, .undef, .undef, .undef, .undef, .undef, .undef, .undef, .undef, .undef], []⟩))
noncomputable def qspec_BoxOk_L0 (N : Nat) : Piece := (mkPiece 41 pspec_BoxOk_L0 (gspec_BoxOk_L0 N N))
noncomputable def ispec_BoxOk (N : Nat) : Fi := { loans := 0, owns := false, results := [.tmp 4], rtys := [4], blks := [(0, qspec_BoxOk_L0 N)], regs := [], masks := [(0, 0)] }
noncomputable def bspec_BoxOk : Code := match Try.f56.body with | some c => c | none => .skip
theorem espec_BoxOk_L0.b (N n : Nat) {α : Type} (v : pspec_BoxOk_L0.V) (K : Out → Option α) : runRound env (ct9 N) (ispec_BoxOk N) 41 (mkPiece 41 pspec_BoxOk_L0 (gspec_BoxOk_L0 N n)).run (.block 0 (.loop (codeAt bspec_BoxOk [1, 1, 0, 1, 0, 0]))) (pspec_BoxOk_L0.mk' v) K = spec_BoxOk_L0r N (fun y0 y1 y2 => spec_BoxOk_L0 N n y0 y1 y2 (fun o0_0 => K (.ret (.iv .bool o0_0) [])) (K (.normal ⟨[.undef, .undef, .undef, .undef, .undef, .undef, .undef, .undef, .undef, .undef, .undef, .undef, .undef, .undef, .undef, .undef, .undef, .undef, .undef, .undef, .undef, .undef, .undef, .undef, .undef, .undef, .undef, .undef, .undef, .undef, .undef], []⟩))) (fun o0_0 => K (.ret (.iv .bool o0_0) [])) (K (.normal ⟨[.undef, .undef, .undef, .undef, .undef, .undef, .undef, .undef, .undef, .undef, .undef, .undef, .undef, .undef, .undef, .undef, .undef, .undef, .undef, .undef, .undef, .undef, .undef, .undef, .undef, .undef, .undef, .undef, .undef, .undef, .undef], []⟩)) v.1.1 v.1.2.2.2.2.2.1 v.2.1 := by kernel_rfl
theorem espec_BoxOk_L0 (N n : Nat) {α : Type} (v : pspec_BoxOk_L0.V) (K : Out → Option α) : runRound env (ct9 N) (ispec_BoxOk N) 41 (mkPiece 41 pspec_BoxOk_L0 (gspec_BoxOk_L0 N n)).run (.block 0 (.loop (codeAt bspec_BoxOk [1, 1, 0, 1, 0, 0]))) (pspec_BoxOk_L0.mk' v) K = gspec_BoxOk_L0 N (n + 1) v K := (espec_BoxOk_L0.b N n v K).trans (by unfold gspec_BoxOk_L0; rw [spec_BoxOk_L0.succ])
theorem ospec_BoxOk_L0 (N : Nat) : PieceOK gd P (ispec_BoxOk N) (.block 0 (.loop (codeAt bspec_BoxOk [1, 1, 0, 1, 0, 0]))) (mkPiece 41 pspec_BoxOk_L0 (gspec_BoxOk_L0 N N)) :=
  piece_loop hE hP (hct9 N) (AllOK.of (F := ispec_BoxOk N) (l := []) (by kernel_rfl) .nil) (fun n {_} => gspec_BoxOk_L0 N n) (fun _ _ => by unfold gspec_BoxOk_L0; rw [spec_BoxOk_L0.zero]) (fun n {_} v K => espec_BoxOk_L0 N n v K) N
theorem oqspec_BoxOk_L0 (N : Nat) : PieceOK gd P (ispec_BoxOk N) (.block 0 (.loop (codeAt bspec_BoxOk [1, 1, 0, 1, 0, 0]))) (qspec_BoxOk_L0 N) := (ospec_BoxOk_L0 N)
noncomputable def pspec_BoxOk : Pt := ⟨[(.i (.int .i64)), (.i (.pair (.sl (.pair (.int .i64) (.pair (.int .i64) .unit))) .unit))], []⟩
noncomputable def gspec_BoxOk (N : Nat) {α : Type} (v : pspec_BoxOk.V) (K : HV → List Blk → Option α) : Option α := spec_BoxOk N v.1.1 v.1.2.1 (fun o0_0 => K (.iv .bool o0_0) [])
theorem espec_BoxOk.b (N : Nat) {α : Type} (v : pspec_BoxOk.V) (K : HV → List Blk → Option α) : runFn env (ct9 N) (ispec_BoxOk N) Try.f56 (SP.mkL pspec_BoxOk.slots v.1) (BP.mkL pspec_BoxOk.store v.2) K = spec_BoxOk.b N v.1.1 v.1.2.1 (fun o0_0 => K (.iv .bool o0_0) []) := by kernel_rfl
theorem espec_BoxOk (N : Nat) {α : Type} (v : pspec_BoxOk.V) (K : HV → List Blk → Option α) : runFn env (ct9 N) (ispec_BoxOk N) Try.f56 (SP.mkL pspec_BoxOk.slots v.1) (BP.mkL pspec_BoxOk.store v.2) K = gspec_BoxOk N v K := (espec_BoxOk.b N v K).trans (by unfold gspec_BoxOk; rw [spec_BoxOk.eq])
theorem ospec_BoxOk (N : Nat) : CalleeOK gd P 56 (mkCallee false pspec_BoxOk (gspec_BoxOk N)) :=
  callee_ok fun v K h => fn_snd hE hP (hct9 N) Try.func56 (by kernel_rfl) (body := bspec_BoxOk) (by kernel_rfl) (by kernel_rfl) (AllOK.of (F := ispec_BoxOk N) (l := [((.block 0 (.loop (codeAt bspec_BoxOk [1, 1, 0, 1, 0, 0]))), qspec_BoxOk_L0 N)]) (by kernel_rfl) (.cons (oqspec_BoxOk_L0 N) .nil)) (loans := BP.mkL pspec_BoxOk.store v.2) rfl ((espec_BoxOk N v K).trans h)
noncomputable def ct10 (N : Nat) : CT := (56, (mkCallee false pspec_BoxOk (gspec_BoxOk N))) :: ct9 N
theorem hct10 (N : Nat) : CTOK gd P (ct10 N) := .cons (ospec_BoxOk N) (hct9 N)

noncomputable def ispec_BitGap (N : Nat) : Fi := { loans := 0, owns := false, results := [.tmp 4], rtys := [35], blks := [], regs := [], masks := [] }
noncomputable def bspec_BitGap : Code := match Try.f21.body with | some c => c | none => .skip
noncomputable def pspec_BitGap : Pt := ⟨[(.i (.int .i64)), (.i (.int .i64))], []⟩
noncomputable def gspec_BitGap (N : Nat) {α : Type} (v : pspec_BitGap.V) (K : HV → List Blk → Option α) : Option α := spec_BitGap N v.1.1 v.1.2.1 (fun o0_0 => K (.iv (.int .u64) o0_0) [])
theorem espec_BitGap.b (N : Nat) {α : Type} (v : pspec_BitGap.V) (K : HV → List Blk → Option α) : runFn env (ct10 N) (ispec_BitGap N) Try.f21 (SP.mkL pspec_BitGap.slots v.1) (BP.mkL pspec_BitGap.store v.2) K = spec_BitGap.b N v.1.1 v.1.2.1 (fun o0_0 => K (.iv (.int .u64) o0_0) []) := by kernel_rfl
theorem espec_BitGap (N : Nat) {α : Type} (v : pspec_BitGap.V) (K : HV → List Blk → Option α) : runFn env (ct10 N) (ispec_BitGap N) Try.f21 (SP.mkL pspec_BitGap.slots v.1) (BP.mkL pspec_BitGap.store v.2) K = gspec_BitGap N v K := (espec_BitGap.b N v K).trans (by unfold gspec_BitGap; rw [spec_BitGap.eq])
theorem ospec_BitGap (N : Nat) : CalleeOK gd P 21 (mkCallee false pspec_BitGap (gspec_BitGap N)) :=
  callee_ok fun v K h => fn_snd hE hP (hct10 N) Try.func21 (by kernel_rfl) (body := bspec_BitGap) (by kernel_rfl) (by kernel_rfl) (AllOK.of (F := ispec_BitGap N) (l := []) (by kernel_rfl) .nil) (loans := BP.mkL pspec_BitGap.store v.2) rfl ((espec_BitGap N v K).trans h)
noncomputable def ct11 (N : Nat) : CT := (21, (mkCallee false pspec_BitGap (gspec_BitGap N))) :: ct10 N
theorem hct11 (N : Nat) : CTOK gd P (ct11 N) := .cons (ospec_BitGap N) (hct10 N)

noncomputable def ispec_l3Gap (N : Nat) : Fi := { loans := 0, owns := false, results := [.tmp 2], rtys := [35], blks := [], regs := [], masks := [] }
noncomputable def bspec_l3Gap : Code := match Try.f46.body with | some c => c | none => .skip
noncomputable def pspec_l3Gap : Pt := ⟨[(.i (.pair (.int .i64) (.pair (.int .i64) .unit)))], []⟩
noncomputable def gspec_l3Gap (N : Nat) {α : Type} (v : pspec_l3Gap.V) (K : HV → List Blk → Option α) : Option α := spec_l3Gap N v.1.1 (fun o0_0 => K (.iv (.int .u64) o0_0) [])
theorem espec_l3Gap.b (N : Nat) {α : Type} (v : pspec_l3Gap.V) (K : HV → List Blk → Option α) : runFn env (ct11 N) (ispec_l3Gap N) Try.f46 (SP.mkL pspec_l3Gap.slots v.1) (BP.mkL pspec_l3Gap.store v.2) K = spec_l3Gap.b N v.1.1 (fun o0_0 => K (.iv (.int .u64) o0_0) []) := by kernel_rfl
theorem espec_l3Gap (N : Nat) {α : Type} (v : pspec_l3Gap.V) (K : HV → List Blk → Option α) : runFn env (ct11 N) (ispec_l3Gap N) Try.f46 (SP.mkL pspec_l3Gap.slots v.1) (BP.mkL pspec_l3Gap.store v.2) K = gspec_l3Gap N v K := (espec_l3Gap.b N v K).trans (by unfold gspec_l3Gap; rw [spec_l3Gap.eq])
theorem ospec_l3Gap (N : Nat) : CalleeOK gd P 46 (mkCallee false pspec_l3Gap (gspec_l3Gap N)) :=
  callee_ok fun v K h => fn_snd hE hP (hct11 N) Try.func46 (by kernel_rfl) (body := bspec_l3Gap) (by kernel_rfl) (by kernel_rfl) (AllOK.of (F := ispec_l3Gap N) (l := []) (by kernel_rfl) .nil) (loans := BP.mkL pspec_l3Gap.store v.2) rfl ((espec_l3Gap N v K).trans h)
noncomputable def ct12 (N : Nat) : CT := (46, (mkCallee false pspec_l3Gap (gspec_l3Gap N))) :: ct11 N
theorem hct12 (N : Nat) : CTOK gd P (ct12 N) := .cons (ospec_l3Gap N) (hct11 N)

noncomputable def ispec_PairCut (N : Nat) : Fi := { loans := 0, owns := false, results := [.cell 6 24, .cell 7 24, .tmp 8], rtys := [24, 24, 4], blks := [], regs := [], masks := [] }
noncomputable def bspec_PairCut : Code := match Try.f18.body with | some c => c | none => .skip
noncomputable def pspec_PairCut : Pt := ⟨[(.i (.int .i64)), (.i (.pair (.int .i64) (.pair (.int .i64) .unit))), (.i (.pair (.int .i64) (.pair (.int .i64) .unit)))], []⟩
noncomputable def gspec_PairCut (N : Nat) {α : Type} (v : pspec_PairCut.V) (K : HV → List Blk → Option α) : Option α := spec_PairCut N v.1.1 v.1.2.1 v.1.2.2.1 (fun o0_0 o0_1 o0_2 => K (.tuple [(.iv (.pair (.int .i64) (.pair (.int .i64) .unit)) o0_0), (.iv (.pair (.int .i64) (.pair (.int .i64) .unit)) o0_1), (.iv .bool o0_2)]) [])
theorem espec_PairCut.b (N : Nat) {α : Type} (v : pspec_PairCut.V) (K : HV → List Blk → Option α) : runFn env (ct12 N) (ispec_PairCut N) Try.f18 (SP.mkL pspec_PairCut.slots v.1) (BP.mkL pspec_PairCut.store v.2) K = spec_PairCut.b N v.1.1 v.1.2.1 v.1.2.2.1 (fun o0_0 o0_1 o0_2 => K (.tuple [(.iv (.pair (.int .i64) (.pair (.int .i64) .unit)) o0_0), (.iv (.pair (.int .i64) (.pair (.int .i64) .unit)) o0_1), (.iv .bool o0_2)]) []) := by kernel_rfl
theorem espec_PairCut (N : Nat) {α : Type} (v : pspec_PairCut.V) (K : HV → List Blk → Option α) : runFn env (ct12 N) (ispec_PairCut N) Try.f18 (SP.mkL pspec_PairCut.slots v.1) (BP.mkL pspec_PairCut.store v.2) K = gspec_PairCut N v K := (espec_PairCut.b N v K).trans (by unfold gspec_PairCut; rw [spec_PairCut.eq])
theorem ospec_PairCut (N : Nat) : CalleeOK gd P 18 (mkCallee false pspec_PairCut (gspec_PairCut N)) :=
  callee_ok fun v K h => fn_snd hE hP (hct12 N) Try.func18 (by kernel_rfl) (body := bspec_PairCut) (by kernel_rfl) (by kernel_rfl) (AllOK.of (F := ispec_PairCut N) (l := []) (by kernel_rfl) .nil) (loans := BP.mkL pspec_PairCut.store v.2) rfl ((espec_PairCut N v K).trans h)
noncomputable def ct13 (N : Nat) : CT := (18, (mkCallee false pspec_PairCut (gspec_PairCut N))) :: ct12 N
theorem hct13 (N : Nat) : CTOK gd P (ct13 N) := .cons (ospec_PairCut N) (hct12 N)

noncomputable def pspec_l4With_J5 : Pt := ⟨[.u, (.i (.int .i64)), .u, (.p 0 [] 0), .u, (.p 1 [] 0), (.p 2 [] 0), (.p 3 [] 0), (.i (.int .i64)), .u, .u, .u, .u, .u, .u, .u, .u, .u, .u, .u, .u, .u, .u, .u, .u, .u, .u, .u, .u, .u, .u, .u, .u, .u, .u, .u], [(.box 46 (.i (.pair (.sl (.pair (.int .i64) (.pair (.int .i64) .unit))) .unit)) false), (.box 24 (.i (.pair (.int .i64) (.pair (.int .i64) .unit))) false), (.box 46 (.a [(.o 4)]) false), (.box 46 (.a [(.o 5)]) false), (.arr 24 (.pair (.int .i64) (.pair (.int .i64) .unit)) false), (.arr 24 (.pair (.int .i64) (.pair (.int .i64) .unit)) false)]⟩
noncomputable def gspec_l4With_J5 (N : Nat) {α : Type} (v : pspec_l4With_J5.V) (K : Out → Option α) : Option α := spec_l4With_J5 N v.1.2.1 v.1.2.2.2.2.2.2.2.2.1 v.2.1 v.2.2.1 v.2.2.2.2.2.1 v.2.2.2.2.2.2.1 (fun o0_0 o0_1 o0_2 o0_3 o0_4 o0_5 => K (.normal ⟨[.undef, (.iv (.int .i64) o0_0), .undef, (.lp 0 [] 0), .undef, (.lp 1 [] 0), (.lp 2 [] 0), (.lp 3 [] 0), (.iv (.int .i64) o0_1), .undef, .undef, .undef, .undef, .undef, .undef, .undef, .undef, .undef, .undef, .undef, .undef, .undef, .undef, .undef, .undef, .undef, .undef, .undef, .undef, .undef, .undef, .undef, .undef, .undef, .undef, .undef], [(.box 46 (.iv (.pair (.sl (.pair (.int .i64) (.pair (.int .i64) .unit))) .unit) o0_2) false), (.box 24 (.iv (.pair (.int .i64) (.pair (.int .i64) .unit)) o0_3) false), (.box 46 (.agg [(.own 4)]) false), (.box 46 (.agg [(.own 5)]) false), (.arr 24 (.pair (.int .i64) (.pair (.int .i64) .unit)) o0_4 false), (.arr 24 (.pair (.int .i64) (.pair (.int .i64) .unit)) o0_5 false)]⟩))
noncomputable def pspec_l4With_L0 : Pt := ⟨[.u, (.i (.int .i64)), .u, (.p 0 [] 0), .u, (.p 1 [] 0), (.p 2 [] 0), (.p 3 [] 0), (.i (.int .i64)), .u, .u, .u, .u, .u, .u, .u, .u, .u, .u, .u, .u, .u, .u, .u, .u, .u, .u, .u, .u, .u, .u, .u, .u, .u, .u, .u], [(.box 46 (.i (.pair (.sl (.pair (.int .i64) (.pair (.int .i64) .unit))) .unit)) false), (.box 24 (.i (.pair (.int .i64) (.pair (.int .i64) .unit))) false), (.box 46 (.a [(.o 4)]) false), (.box 46 (.a [(.o 5)]) false), (.arr 24 (.pair (.int .i64) (.pair (.int .i64) .unit)) false), (.arr 24 (.pair (.int .i64) (.pair (.int .i64) .unit)) false)]⟩
noncomputable def gspec_l4With_L0 (N n : Nat) {α : Type} (v : pspec_l4With_L0.V) (K : Out → Option α) : Option α := spec_l4With_L0 N n v.1.2.1 v.1.2.2.2.2.2.2.2.2.1 v.2.1 v.2.2.1 v.2.2.2.2.2.1 v.2.2.2.2.2.2.1 (fun o0_0 o0_1 => K (.normal ⟨[.undef, .undef, .undef, .undef, .undef, .undef, (.lp 0 [] 0), (.lp 1 [] 0), .undef, .undef, .undef, .undef, .undef, .undef, .undef, .undef, .undef, .undef, .undef, .undef, .undef, .undef, .undef, .undef, .undef, .undef, .undef, .undef, .undef, .undef, .undef, .undef, .undef, .undef, .undef, .undef], [(.box 46 (.agg [(.own 2)]) false), (.box 46 (.agg [(.own 3)]) false), (.arr 24 (.pair (.int .i64) (.pair (.int .i64) .unit)) o0_0 false), (.arr 24 (.pair (.int .i64) (.pair (.int .i64) .unit)) o0_1 false)]⟩))
noncomputable def qspec_l4With_J5 (N : Nat) : Piece := (mkPiece 490 pspec_l4With_J5 (gspec_l4With_J5 N))
noncomputable def qspec_l4With_L0 (N : Nat) : Piece := (mkPiece 490 pspec_l4With_L0 (gspec_l4With_L0 N N))
noncomputable def ispec_l4With (N : Nat) : Fi := { loans := 0, owns := false, results := [.cell 6 46], rtys := [46], blks := [(0, qspec_l4With_L0 N)], regs := [(5, qspec_l4With_J5 N)], masks := [(0, 192)] }
noncomputable def bspec_l4With : Code := match Try.f69.body with | some c => c | none => .skip
theorem espec_l4With_J5.b (N : Nat) {α : Type} (v : pspec_l4With_J5.V) (K : Out → Option α) : runSeq env (ct13 N) (ispec_l4With N) 490 (.seq (codeAt bspec_l4With [1, 1, 0, 1, 0, 0, 1, 0, 0, 0]) (codeAt bspec_l4With [1, 1, 0, 1, 0, 0, 1, 0, 0, 1])) (pspec_l4With_J5.mk' v) K = spec_l4With_J5.b N v.1.2.1 v.1.2.2.2.2.2.2.2.2.1 v.2.1 v.2.2.1 v.2.2.2.2.2.1 v.2.2.2.2.2.2.1 (fun o0_0 o0_1 o0_2 o0_3 o0_4 o0_5 => K (.normal ⟨[.undef, (.iv (.int .i64) o0_0), .undef, (.lp 0 [] 0), .undef, (.lp 1 [] 0), (.lp 2 [] 0), (.lp 3 [] 0), (.iv (.int .i64) o0_1), .undef, .undef, .undef, .undef, .undef, .undef, .undef, .undef, .undef, .undef, .undef, .undef, .undef, .undef, .undef, .undef, .undef, .undef, .undef, .undef, .undef, .undef, .undef, .undef, .undef, .undef, .undef], [(.box 46 (.iv (.pair (.sl (.pair (.int .i64) (.pair (.int .i64) .unit))) .unit) o0_2) false), (.box 24 (.iv (.pair (.int .i64) (.pair (.int .i64) .unit)) o0_3) false), (.box 46 (.agg [(.own 4)]) false), (.box 46 (.agg [(.own 5)]) false), (.arr 24 (.pair (.int .i64) (.pair (.int .i64) .unit)) o0_4 false), (.arr 24 (.pair (.int .i64) (.pair (.int .i64) .unit)) o0_5 false)]⟩)) := by kernel_rfl
theorem espec_l4With_J5 (N : Nat) {α : Type} (v : pspec_l4With_J5.V) (K : Out → Option α) : runSeq env (ct13 N) (ispec_l4With N) 490 (.seq (codeAt bspec_l4With [1, 1, 0, 1, 0, 0, 1, 0, 0, 0]) (codeAt bspec_l4With [1, 1, 0, 1, 0, 0, 1, 0, 0, 1])) (pspec_l4With_J5.mk' v) K = gspec_l4With_J5 N v K := (espec_l4With_J5.b N v K).trans (by unfold gspec_l4With_J5; rw [spec_l4With_J5.eq])
theorem ospec_l4With_J5 (N : Nat) : PieceOK gd P (ispec_l4With N) (.seq (codeAt bspec_l4With [1, 1, 0, 1, 0, 0, 1, 0, 0, 0]) (codeAt bspec_l4With [1, 1, 0, 1, 0, 0, 1, 0, 0, 1])) (mkPiece 490 pspec_l4With_J5 (gspec_l4With_J5 N)) :=
  piece_seq hE hP (hct13 N) (AllOK.of (F := ispec_l4With N) (l := []) (by kernel_rfl) .nil) (AllOK.of (F := ispec_l4With N) (l := []) (by kernel_rfl) .nil) (espec_l4With_J5 N)
theorem oqspec_l4With_J5 (N : Nat) : PieceOK gd P (ispec_l4With N) (.seq (codeAt bspec_l4With [1, 1, 0, 1, 0, 0, 1, 0, 0, 0]) (codeAt bspec_l4With [1, 1, 0, 1, 0, 0, 1, 0, 0, 1])) (qspec_l4With_J5 N) := (ospec_l4With_J5 N)
theorem espec_l4With_L0.b (N n : Nat) {α : Type} (v : pspec_l4With_L0.V) (K : Out → Option α) : runRound env (ct13 N) (ispec_l4With N) 490 (mkPiece 490 pspec_l4With_L0 (gspec_l4With_L0 N n)).run (.block 0 (.loop (codeAt bspec_l4With [1, 1, 0, 1, 0, 0]))) (pspec_l4With_L0.mk' v) K = spec_l4With_L0r N (fun y0 y1 y2 y3 y4 y5 => spec_l4With_L0 N n y0 y1 y2 y3 y4 y5 (fun o0_0 o0_1 => K (.normal ⟨[.undef, .undef, .undef, .undef, .undef, .undef, (.lp 0 [] 0), (.lp 1 [] 0), .undef, .undef, .undef, .undef, .undef, .undef, .undef, .undef, .undef, .undef, .undef, .undef, .undef, .undef, .undef, .undef, .undef, .undef, .undef, .undef, .undef, .undef, .undef, .undef, .undef, .undef, .undef, .undef], [(.box 46 (.agg [(.own 2)]) false), (.box 46 (.agg [(.own 3)]) false), (.arr 24 (.pair (.int .i64) (.pair (.int .i64) .unit)) o0_0 false), (.arr 24 (.pair (.int .i64) (.pair (.int .i64) .unit)) o0_1 false)]⟩))) (fun o0_0 o0_1 => K (.normal ⟨[.undef, .undef, .undef, .undef, .undef, .undef, (.lp 0 [] 0), (.lp 1 [] 0), .undef, .undef, .undef, .undef, .undef, .undef, .undef, .undef, .undef, .undef, .undef, .undef, .undef, .undef, .undef, .undef, .undef, .undef, .undef, .undef, .undef, .undef, .undef, .undef, .undef, .undef, .undef, .undef], [(.box 46 (.agg [(.own 2)]) false), (.box 46 (.agg [(.own 3)]) false), (.arr 24 (.pair (.int .i64) (.pair (.int .i64) .unit)) o0_0 false), (.arr 24 (.pair (.int .i64) (.pair (.int .i64) .unit)) o0_1 false)]⟩)) v.1.2.1 v.1.2.2.2.2.2.2.2.2.1 v.2.1 v.2.2.1 v.2.2.2.2.2.1 v.2.2.2.2.2.2.1 := by kernel_rfl
theorem espec_l4With_L0 (N n : Nat) {α : Type} (v : pspec_l4With_L0.V) (K : Out → Option α) : runRound env (ct13 N) (ispec_l4With N) 490 (mkPiece 490 pspec_l4With_L0 (gspec_l4With_L0 N n)).run (.block 0 (.loop (codeAt bspec_l4With [1, 1, 0, 1, 0, 0]))) (pspec_l4With_L0.mk' v) K = gspec_l4With_L0 N (n + 1) v K := (espec_l4With_L0.b N n v K).trans (by unfold gspec_l4With_L0; rw [spec_l4With_L0.succ])
theorem ospec_l4With_L0 (N : Nat) : PieceOK gd P (ispec_l4With N) (.block 0 (.loop (codeAt bspec_l4With [1, 1, 0, 1, 0, 0]))) (mkPiece 490 pspec_l4With_L0 (gspec_l4With_L0 N N)) :=
  piece_loop hE hP (hct13 N) (AllOK.of (F := ispec_l4With N) (l := [((.seq (codeAt bspec_l4With [1, 1, 0, 1, 0, 0, 1, 0, 0, 0]) (codeAt bspec_l4With [1, 1, 0, 1, 0, 0, 1, 0, 0, 1])), qspec_l4With_J5 N)]) (by kernel_rfl) (.cons (oqspec_l4With_J5 N) .nil)) (fun n {_} => gspec_l4With_L0 N n) (fun _ _ => by unfold gspec_l4With_L0; rw [spec_l4With_L0.zero]) (fun n {_} v K => espec_l4With_L0 N n v K) N
theorem oqspec_l4With_L0 (N : Nat) : PieceOK gd P (ispec_l4With N) (.block 0 (.loop (codeAt bspec_l4With [1, 1, 0, 1, 0, 0]))) (qspec_l4With_L0 N) := (ospec_l4With_L0 N)
noncomputable def pspec_l4With : Pt := ⟨[(.i (.pair (.sl (.pair (.int .i64) (.pair (.int .i64) .unit))) .unit)), (.i (.int .i64)), (.i (.pair (.int .i64) (.pair (.int .i64) .unit)))], []⟩
noncomputable def gspec_l4With (N : Nat) {α : Type} (v : pspec_l4With.V) (K : HV → List Blk → Option α) : Option α := spec_l4With N v.1.1 v.1.2.1 v.1.2.2.1 (fun o0_0 => K (.iv (.pair (.sl (.pair (.int .i64) (.pair (.int .i64) .unit))) .unit) o0_0) [])
theorem espec_l4With.b (N : Nat) {α : Type} (v : pspec_l4With.V) (K : HV → List Blk → Option α) : runFn env (ct13 N) (ispec_l4With N) Try.f69 (SP.mkL pspec_l4With.slots v.1) (BP.mkL pspec_l4With.store v.2) K = spec_l4With.b N v.1.1 v.1.2.1 v.1.2.2.1 (fun o0_0 => K (.iv (.pair (.sl (.pair (.int .i64) (.pair (.int .i64) .unit))) .unit) o0_0) []) := by kernel_rfl
theorem espec_l4With (N : Nat) {α : Type} (v : pspec_l4With.V) (K : HV → List Blk → Option α) : runFn env (ct13 N) (ispec_l4With N) Try.f69 (SP.mkL pspec_l4With.slots v.1) (BP.mkL pspec_l4With.store v.2) K = gspec_l4With N v K := (espec_l4With.b N v K).trans (by unfold gspec_l4With; rw [spec_l4With.eq])
theorem ospec_l4With (N : Nat) : CalleeOK gd P 69 (mkCallee false pspec_l4With (gspec_l4With N)) :=
  callee_ok fun v K h => fn_snd hE hP (hct13 N) Try.func69 (by kernel_rfl) (body := bspec_l4With) (by kernel_rfl) (by kernel_rfl) (AllOK.of (F := ispec_l4With N) (l := [((.block 0 (.loop (codeAt bspec_l4With [1, 1, 0, 1, 0, 0]))), qspec_l4With_L0 N)]) (by kernel_rfl) (.cons (oqspec_l4With_L0 N) .nil)) (loans := BP.mkL pspec_l4With.store v.2) rfl ((espec_l4With N v K).trans h)
noncomputable def ct14 (N : Nat) : CT := (69, (mkCallee false pspec_l4With (gspec_l4With N))) :: ct13 N
theorem hct14 (N : Nat) : CTOK gd P (ct14 N) := .cons (ospec_l4With N) (hct13 N)

noncomputable def ispec_BoxCut (N : Nat) : Fi := { loans := 0, owns := false, results := [.cell 8 46, .cell 9 46, .tmp 10], rtys := [46, 46, 4], blks := [], regs := [], masks := [] }
noncomputable def bspec_BoxCut : Code := match Try.f43.body with | some c => c | none => .skip
noncomputable def pspec_BoxCut : Pt := ⟨[(.i (.int .i64)), (.i (.pair (.sl (.pair (.int .i64) (.pair (.int .i64) .unit))) .unit)), (.i (.int .i64)), (.i (.pair (.int .i64) (.pair (.int .i64) .unit)))], []⟩
noncomputable def gspec_BoxCut (N : Nat) {α : Type} (v : pspec_BoxCut.V) (K : HV → List Blk → Option α) : Option α := spec_BoxCut N v.1.1 v.1.2.1 v.1.2.2.1 v.1.2.2.2.1 (fun o0_0 o0_1 o0_2 => K (.tuple [(.iv (.pair (.sl (.pair (.int .i64) (.pair (.int .i64) .unit))) .unit) o0_0), (.iv (.pair (.sl (.pair (.int .i64) (.pair (.int .i64) .unit))) .unit) o0_1), (.iv .bool o0_2)]) [])
theorem espec_BoxCut.b (N : Nat) {α : Type} (v : pspec_BoxCut.V) (K : HV → List Blk → Option α) : runFn env (ct14 N) (ispec_BoxCut N) Try.f43 (SP.mkL pspec_BoxCut.slots v.1) (BP.mkL pspec_BoxCut.store v.2) K = spec_BoxCut.b N v.1.1 v.1.2.1 v.1.2.2.1 v.1.2.2.2.1 (fun o0_0 o0_1 o0_2 => K (.tuple [(.iv (.pair (.sl (.pair (.int .i64) (.pair (.int .i64) .unit))) .unit) o0_0), (.iv (.pair (.sl (.pair (.int .i64) (.pair (.int .i64) .unit))) .unit) o0_1), (.iv .bool o0_2)]) []) := by kernel_rfl
theorem espec_BoxCut (N : Nat) {α : Type} (v : pspec_BoxCut.V) (K : HV → List Blk → Option α) : runFn env (ct14 N) (ispec_BoxCut N) Try.f43 (SP.mkL pspec_BoxCut.slots v.1) (BP.mkL pspec_BoxCut.store v.2) K = gspec_BoxCut N v K := (espec_BoxCut.b N v K).trans (by unfold gspec_BoxCut; rw [spec_BoxCut.eq])
theorem ospec_BoxCut (N : Nat) : CalleeOK gd P 43 (mkCallee false pspec_BoxCut (gspec_BoxCut N)) :=
  callee_ok fun v K h => fn_snd hE hP (hct14 N) Try.func43 (by kernel_rfl) (body := bspec_BoxCut) (by kernel_rfl) (by kernel_rfl) (AllOK.of (F := ispec_BoxCut N) (l := []) (by kernel_rfl) .nil) (loans := BP.mkL pspec_BoxCut.store v.2) rfl ((espec_BoxCut N v K).trans h)
noncomputable def ct15 (N : Nat) : CT := (43, (mkCallee false pspec_BoxCut (gspec_BoxCut N))) :: ct14 N
theorem hct15 (N : Nat) : CTOK gd P (ct15 N) := .cons (ospec_BoxCut N) (hct14 N)

noncomputable def iimpl_in (N : Nat) : Fi := { loans := 0, owns := false, results := [.tmp 6], rtys := [4], blks := [], regs := [], masks := [] }
noncomputable def bimpl_in : Code := match Try.f79.body with | some c => c | none => .skip
noncomputable def pimpl_in : Pt := ⟨[(.i (.int .i64)), (.i (.int .i64)), (.i (.int .i64))], []⟩
noncomputable def gimpl_in (N : Nat) {α : Type} (v : pimpl_in.V) (K : HV → List Blk → Option α) : Option α := impl_in N v.1.1 v.1.2.1 v.1.2.2.1 (fun o0_0 => K (.iv .bool o0_0) [])
theorem eimpl_in.b (N : Nat) {α : Type} (v : pimpl_in.V) (K : HV → List Blk → Option α) : runFn env (ct15 N) (iimpl_in N) Try.f79 (SP.mkL pimpl_in.slots v.1) (BP.mkL pimpl_in.store v.2) K = impl_in.b N v.1.1 v.1.2.1 v.1.2.2.1 (fun o0_0 => K (.iv .bool o0_0) []) := by kernel_rfl
theorem eimpl_in (N : Nat) {α : Type} (v : pimpl_in.V) (K : HV → List Blk → Option α) : runFn env (ct15 N) (iimpl_in N) Try.f79 (SP.mkL pimpl_in.slots v.1) (BP.mkL pimpl_in.store v.2) K = gimpl_in N v K := (eimpl_in.b N v K).trans (by unfold gimpl_in; rw [impl_in.eq])
theorem oimpl_in (N : Nat) : CalleeOK gd P 79 (mkCallee false pimpl_in (gimpl_in N)) :=
  callee_ok fun v K h => fn_snd hE hP (hct15 N) Try.func79 (by kernel_rfl) (body := bimpl_in) (by kernel_rfl) (by kernel_rfl) (AllOK.of (F := iimpl_in N) (l := []) (by kernel_rfl) .nil) (loans := BP.mkL pimpl_in.store v.2) rfl ((eimpl_in N v K).trans h)
noncomputable def ct16 (N : Nat) : CT := (79, (mkCallee false pimpl_in (gimpl_in N))) :: ct15 N
theorem hct16 (N : Nat) : CTOK gd P (ct16 N) := .cons (oimpl_in N) (hct15 N)

noncomputable def iimpl_formatOf (N : Nat) : Fi := { loans := 0, owns := false, results := [.cell 2 84, .tmp 3], rtys := [84, 4], blks := [], regs := [], masks := [] }
noncomputable def bimpl_formatOf : Code := match Try.f78.body with | some c => c | none => .skip
noncomputable def pimpl_formatOf : Pt := ⟨[(.i (.int .i64))], []⟩
noncomputable def gimpl_formatOf (N : Nat) {α : Type} (v : pimpl_formatOf.V) (K : HV → List Blk → Option α) : Option α := impl_formatOf N v.1.1 (fun o0_0 o0_1 => K (.tuple [(.iv (.pair (.int .i64) (.pair (.int .i64) (.pair (.int .i64) (.pair (.int .i64) .unit)))) o0_0), (.iv .bool o0_1)]) [])
theorem eimpl_formatOf.b (N : Nat) {α : Type} (v : pimpl_formatOf.V) (K : HV → List Blk → Option α) : runFn env (ct16 N) (iimpl_formatOf N) Try.f78 (SP.mkL pimpl_formatOf.slots v.1) (BP.mkL pimpl_formatOf.store v.2) K = impl_formatOf.b N v.1.1 (fun o0_0 o0_1 => K (.tuple [(.iv (.pair (.int .i64) (.pair (.int .i64) (.pair (.int .i64) (.pair (.int .i64) .unit)))) o0_0), (.iv .bool o0_1)]) []) := by kernel_rfl
theorem eimpl_formatOf (N : Nat) {α : Type} (v : pimpl_formatOf.V) (K : HV → List Blk → Option α) : runFn env (ct16 N) (iimpl_formatOf N) Try.f78 (SP.mkL pimpl_formatOf.slots v.1) (BP.mkL pimpl_formatOf.store v.2) K = gimpl_formatOf N v K := (eimpl_formatOf.b N v K).trans (by unfold gimpl_formatOf; rw [impl_formatOf.eq])
theorem oimpl_formatOf (N : Nat) : CalleeOK gd P 78 (mkCallee false pimpl_formatOf (gimpl_formatOf N)) :=
  callee_ok fun v K h => fn_snd hE hP (hct16 N) Try.func78 (by kernel_rfl) (body := bimpl_formatOf) (by kernel_rfl) (by kernel_rfl) (AllOK.of (F := iimpl_formatOf N) (l := []) (by kernel_rfl) .nil) (loans := BP.mkL pimpl_formatOf.store v.2) rfl ((eimpl_formatOf N v K).trans h)
noncomputable def ct17 (N : Nat) : CT := (78, (mkCallee false pimpl_formatOf (gimpl_formatOf N))) :: ct16 N
theorem hct17 (N : Nat) : CTOK gd P (ct17 N) := .cons (oimpl_formatOf N) (hct16 N)

noncomputable def iimpl_BitTop (N : Nat) : Fi := { loans := 0, owns := false, results := [.tmp 2], rtys := [3], blks := [], regs := [], masks := [] }
noncomputable def bimpl_BitTop : Code := match Try.f53.body with | some c => c | none => .skip
noncomputable def pimpl_BitTop : Pt := ⟨[(.i (.int .i64))], []⟩
noncomputable def gimpl_BitTop (N : Nat) {α : Type} (v : pimpl_BitTop.V) (K : HV → List Blk → Option α) : Option α := impl_BitTop N v.1.1 (fun o0_0 => K (.iv (.int .i64) o0_0) [])
theorem eimpl_BitTop.b (N : Nat) {α : Type} (v : pimpl_BitTop.V) (K : HV → List Blk → Option α) : runFn env (ct17 N) (iimpl_BitTop N) Try.f53 (SP.mkL pimpl_BitTop.slots v.1) (BP.mkL pimpl_BitTop.store v.2) K = impl_BitTop.b N v.1.1 (fun o0_0 => K (.iv (.int .i64) o0_0) []) := by kernel_rfl
theorem eimpl_BitTop (N : Nat) {α : Type} (v : pimpl_BitTop.V) (K : HV → List Blk → Option α) : runFn env (ct17 N) (iimpl_BitTop N) Try.f53 (SP.mkL pimpl_BitTop.slots v.1) (BP.mkL pimpl_BitTop.store v.2) K = gimpl_BitTop N v K := (eimpl_BitTop.b N v K).trans (by unfold gimpl_BitTop; rw [impl_BitTop.eq])
theorem oimpl_BitTop (N : Nat) : CalleeOK gd P 53 (mkCallee false pimpl_BitTop (gimpl_BitTop N)) :=
  callee_ok fun v K h => fn_snd hE hP (hct17 N) Try.func53 (by kernel_rfl) (body := bimpl_BitTop) (by kernel_rfl) (by kernel_rfl) (AllOK.of (F := iimpl_BitTop N) (l := []) (by kernel_rfl) .nil) (loans := BP.mkL pimpl_BitTop.store v.2) rfl ((eimpl_BitTop N v K).trans h)
noncomputable def ct18 (N : Nat) : CT := (53, (mkCallee false pimpl_BitTop (gimpl_BitTop N))) :: ct17 N
theorem hct18 (N : Nat) : CTOK gd P (ct18 N) := .cons (oimpl_BitTop N) (hct17 N)

noncomputable def iimpl_BitOk (N : Nat) : Fi := { loans := 0, owns := false, results := [.tmp 4], rtys := [4], blks := [], regs := [], masks := [] }
noncomputable def bimpl_BitOk : Code := match Try.f54.body with | some c => c | none => .skip
noncomputable def pimpl_BitOk : Pt := ⟨[(.i (.int .i64)), (.i (.int .i64))], []⟩
noncomputable def gimpl_BitOk (N : Nat) {α : Type} (v : pimpl_BitOk.V) (K : HV → List Blk → Option α) : Option α := impl_BitOk N v.1.1 v.1.2.1 (fun o0_0 => K (.iv .bool o0_0) [])
theorem eimpl_BitOk.b (N : Nat) {α : Type} (v : pimpl_BitOk.V) (K : HV → List Blk → Option α) : runFn env (ct18 N) (iimpl_BitOk N) Try.f54 (SP.mkL pimpl_BitOk.slots v.1) (BP.mkL pimpl_BitOk.store v.2) K = impl_BitOk.b N v.1.1 v.1.2.1 (fun o0_0 => K (.iv .bool o0_0) []) := by kernel_rfl
theorem eimpl_BitOk (N : Nat) {α : Type} (v : pimpl_BitOk.V) (K : HV → List Blk → Option α) : runFn env (ct18 N) (iimpl_BitOk N) Try.f54 (SP.mkL pimpl_BitOk.slots v.1) (BP.mkL pimpl_BitOk.store v.2) K = gimpl_BitOk N v K := (eimpl_BitOk.b N v K).trans (by unfold gimpl_BitOk; rw [impl_BitOk.eq])
theorem oimpl_BitOk (N : Nat) : CalleeOK gd P 54 (mkCallee false pimpl_BitOk (gimpl_BitOk N)) :=
  callee_ok fun v K h => fn_snd hE hP (hct18 N) Try.func54 (by kernel_rfl) (body := bimpl_BitOk) (by kernel_rfl) (by kernel_rfl) (AllOK.of (F := iimpl_BitOk N) (l := []) (by kernel_rfl) .nil) (loans := BP.mkL pimpl_BitOk.store v.2) rfl ((eimpl_BitOk N v K).trans h)
noncomputable def ct19 (N : Nat) : CT := (54, (mkCallee false pimpl_BitOk (gimpl_BitOk N))) :: ct18 N
theorem hct19 (N : Nat) : CTOK gd P (ct19 N) := .cons (oimpl_BitOk N) (hct18 N)

noncomputable def iimpl_PairOk (N : Nat) : Fi := { loans := 0, owns := false, results := [.tmp 4], rtys := [4], blks := [], regs := [], masks := [] }
noncomputable def bimpl_PairOk : Code := match Try.f23.body with | some c => c | none => .skip
noncomputable def pimpl_PairOk : Pt := ⟨[(.i (.int .i64)), (.i (.pair (.int .i64) (.pair (.int .i64) .unit)))], []⟩
noncomputable def gimpl_PairOk (N : Nat) {α : Type} (v : pimpl_PairOk.V) (K : HV → List Blk → Option α) : Option α := impl_PairOk N v.1.1 v.1.2.1 (fun o0_0 => K (.iv .bool o0_0) [])
theorem eimpl_PairOk.b (N : Nat) {α : Type} (v : pimpl_PairOk.V) (K : HV → List Blk → Option α) : runFn env (ct19 N) (iimpl_PairOk N) Try.f23 (SP.mkL pimpl_PairOk.slots v.1) (BP.mkL pimpl_PairOk.store v.2) K = impl_PairOk.b N v.1.1 v.1.2.1 (fun o0_0 => K (.iv .bool o0_0) []) := by kernel_rfl
theorem eimpl_PairOk (N : Nat) {α : Type} (v : pimpl_PairOk.V) (K : HV → List Blk → Option α) : runFn env (ct19 N) (iimpl_PairOk N) Try.f23 (SP.mkL pimpl_PairOk.slots v.1) (BP.mkL pimpl_PairOk.store v.2) K = gimpl_PairOk N v K := (eimpl_PairOk.b N v K).trans (by unfold gimpl_PairOk; rw [impl_PairOk.eq])
theorem oimpl_PairOk (N : Nat) : CalleeOK gd P 23 (mkCallee false pimpl_PairOk (gimpl_PairOk N)) :=
  callee_ok fun v K h => fn_snd hE hP (hct19 N) Try.func23 (by kernel_rfl) (body := bimpl_PairOk) (by kernel_rfl) (by kernel_rfl) (AllOK.of (F := iimpl_PairOk N) (l := []) (by kernel_rfl) .nil) (loans := BP.mkL pimpl_PairOk.store v.2) rfl ((eimpl_PairOk N v K).trans h)
noncomputable def ct20 (N : Nat) : CT := (23, (mkCallee false pimpl_PairOk (gimpl_PairOk N))) :: ct19 N
theorem hct20 (N : Nat) : CTOK gd P (ct20 N) := .cons (oimpl_PairOk N) (hct19 N)

noncomputable def iimpl_BoxOk_1 (N : Nat) : Fi := { loans := 0, owns := false, results := [.tmp 3], rtys := [4], blks := [], regs := [], masks := [] }
noncomputable def bimpl_BoxOk_1 : Code := match Try.f80.body with | some c => c | none => .skip
noncomputable def pimpl_BoxOk_1 : Pt := ⟨[(.i (.pair (.int .i64) (.pair (.int .i64) .unit))), (.q (.int .i64))], []⟩
noncomputable def gimpl_BoxOk_1 (N : Nat) {α : Type} (v : pimpl_BoxOk_1.V) (K : HV → List Blk → Option α) : Option α := impl_BoxOk_1 N v.1.1 v.1.2.1 (fun o0_0 => K (.iv .bool o0_0) [])
theorem eimpl_BoxOk_1.b (N : Nat) {α : Type} (v : pimpl_BoxOk_1.V) (K : HV → List Blk → Option α) : runFn env (ct20 N) (iimpl_BoxOk_1 N) Try.f80 (SP.mkL pimpl_BoxOk_1.slots v.1) (BP.mkL pimpl_BoxOk_1.store v.2) K = impl_BoxOk_1.b N v.1.1 v.1.2.1 (fun o0_0 => K (.iv .bool o0_0) []) := by kernel_rfl
theorem eimpl_BoxOk_1 (N : Nat) {α : Type} (v : pimpl_BoxOk_1.V) (K : HV → List Blk → Option α) : runFn env (ct20 N) (iimpl_BoxOk_1 N) Try.f80 (SP.mkL pimpl_BoxOk_1.slots v.1) (BP.mkL pimpl_BoxOk_1.store v.2) K = gimpl_BoxOk_1 N v K := (eimpl_BoxOk_1.b N v K).trans (by unfold gimpl_BoxOk_1; rw [impl_BoxOk_1.eq])
theorem oimpl_BoxOk_1 (N : Nat) : CalleeOK gd P 80 (mkCallee false pimpl_BoxOk_1 (gimpl_BoxOk_1 N)) :=
  callee_ok fun v K h => fn_snd hE hP (hct20 N) Try.func80 (by kernel_rfl) (body := bimpl_BoxOk_1) (by kernel_rfl) (by kernel_rfl) (AllOK.of (F := iimpl_BoxOk_1 N) (l := []) (by kernel_rfl) .nil) (loans := BP.mkL pimpl_BoxOk_1.store v.2) rfl ((eimpl_BoxOk_1 N v K).trans h)
noncomputable def ct21 (N : Nat) : CT := (80, (mkCallee false pimpl_BoxOk_1 (gimpl_BoxOk_1 N))) :: ct20 N
theorem hct21 (N : Nat) : CTOK gd P (ct21 N) := .cons (oimpl_BoxOk_1 N) (hct20 N)

noncomputable def pslices_IndexFunc_impl_Pair_impl_Pair__impl_BoxOk_1_L0 : Pt := ⟨[(.i (.sl (.pair (.int .i64) (.pair (.int .i64) .unit)))), (.f 80 [(.q (.int .i64))]), .u, .u, .u, .u, .u, (.i (.int .i64)), (.i (.int .i64)), .u, .u, .u, .u, .u, .u, .u, .u, .u, .u], []⟩
noncomputable def gslices_IndexFunc_impl_Pair_impl_Pair__impl_BoxOk_1_L0 (N n : Nat) {α : Type} (v : pslices_IndexFunc_impl_Pair_impl_Pair__impl_BoxOk_1_L0.V) (K : Out → Option α) : Option α := slices_IndexFunc_impl_Pair_impl_Pair__impl_BoxOk_1_L0 N n v.1.1 v.1.2.1.1 v.1.2.2.2.2.2.2.2.1 v.1.2.2.2.2.2.2.2.2.1 (fun o0_0 => K (.ret (.iv (.int .i64) o0_0) [])) (K (.normal ⟨[.undef, .undef, .undef, .undef, .undef, .undef, .undef, .undef, .undef, .undef, .undef, .undef, .undef, .undef, .undef, .undef, .undef, .undef, .undef], []⟩))
noncomputable def qslices_IndexFunc_impl_Pair_impl_Pair__impl_BoxOk_1_L0 (N : Nat) : Piece := (mkPiece 387 pslices_IndexFunc_impl_Pair_impl_Pair__impl_BoxOk_1_L0 (gslices_IndexFunc_impl_Pair_impl_Pair__impl_BoxOk_1_L0 N N))
noncomputable def islices_IndexFunc_impl_Pair_impl_Pair__impl_BoxOk_1 (N : Nat) : Fi := { loans := 0, owns := false, results := [.tmp 4], rtys := [3], blks := [(0, qslices_IndexFunc_impl_Pair_impl_Pair__impl_BoxOk_1_L0 N)], regs := [], masks := [(0, 0)] }
noncomputable def bslices_IndexFunc_impl_Pair_impl_Pair__impl_BoxOk_1 : Code := match Try.f81.body with | some c => c | none => .skip
theorem eslices_IndexFunc_impl_Pair_impl_Pair__impl_BoxOk_1_L0.b (N n : Nat) {α : Type} (v : pslices_IndexFunc_impl_Pair_impl_Pair__impl_BoxOk_1_L0.V) (K : Out → Option α) : runRound env (ct21 N) (islices_IndexFunc_impl_Pair_impl_Pair__impl_BoxOk_1 N) 387 (mkPiece 387 pslices_IndexFunc_impl_Pair_impl_Pair__impl_BoxOk_1_L0 (gslices_IndexFunc_impl_Pair_impl_Pair__impl_BoxOk_1_L0 N n)).run (.block 0 (.loop (codeAt bslices_IndexFunc_impl_Pair_impl_Pair__impl_BoxOk_1 [1, 0, 1, 0, 0]))) (pslices_IndexFunc_impl_Pair_impl_Pair__impl_BoxOk_1_L0.mk' v) K = slices_IndexFunc_impl_Pair_impl_Pair__impl_BoxOk_1_L0r N (fun y0 y1 y2 y3 => slices_IndexFunc_impl_Pair_impl_Pair__impl_BoxOk_1_L0 N n y0 y1 y2 y3 (fun o0_0 => K (.ret (.iv (.int .i64) o0_0) [])) (K (.normal ⟨[.undef, .undef, .undef, .undef, .undef, .undef, .undef, .undef, .undef, .undef, .undef, .undef, .undef, .undef, .undef, .undef, .undef, .undef, .undef], []⟩))) (fun o0_0 => K (.ret (.iv (.int .i64) o0_0) [])) (K (.normal ⟨[.undef, .undef, .undef, .undef, .undef, .undef, .undef, .undef, .undef, .undef, .undef, .undef, .undef, .undef, .undef, .undef, .undef, .undef, .undef], []⟩)) v.1.1 v.1.2.1.1 v.1.2.2.2.2.2.2.2.1 v.1.2.2.2.2.2.2.2.2.1 := by kernel_rfl
theorem eslices_IndexFunc_impl_Pair_impl_Pair__impl_BoxOk_1_L0 (N n : Nat) {α : Type} (v : pslices_IndexFunc_impl_Pair_impl_Pair__impl_BoxOk_1_L0.V) (K : Out → Option α) : runRound env (ct21 N) (islices_IndexFunc_impl_Pair_impl_Pair__impl_BoxOk_1 N) 387 (mkPiece 387 pslices_IndexFunc_impl_Pair_impl_Pair__impl_BoxOk_1_L0 (gslices_IndexFunc_impl_Pair_impl_Pair__impl_BoxOk_1_L0 N n)).run (.block 0 (.loop (codeAt bslices_IndexFunc_impl_Pair_impl_Pair__impl_BoxOk_1 [1, 0, 1, 0, 0]))) (pslices_IndexFunc_impl_Pair_impl_Pair__impl_BoxOk_1_L0.mk' v) K = gslices_IndexFunc_impl_Pair_impl_Pair__impl_BoxOk_1_L0 N (n + 1) v K := (eslices_IndexFunc_impl_Pair_impl_Pair__impl_BoxOk_1_L0.b N n v K).trans (by unfold gslices_IndexFunc_impl_Pair_impl_Pair__impl_BoxOk_1_L0; rw [slices_IndexFunc_impl_Pair_impl_Pair__impl_BoxOk_1_L0.succ])
theorem oslices_IndexFunc_impl_Pair_impl_Pair__impl_BoxOk_1_L0 (N : Nat) : PieceOK gd P (islices_IndexFunc_impl_Pair_impl_Pair__impl_BoxOk_1 N) (.block 0 (.loop (codeAt bslices_IndexFunc_impl_Pair_impl_Pair__impl_BoxOk_1 [1, 0, 1, 0, 0]))) (mkPiece 387 pslices_IndexFunc_impl_Pair_impl_Pair__impl_BoxOk_1_L0 (gslices_IndexFunc_impl_Pair_impl_Pair__impl_BoxOk_1_L0 N N)) :=
  piece_loop hE hP (hct21 N) (AllOK.of (F := islices_IndexFunc_impl_Pair_impl_Pair__impl_BoxOk_1 N) (l := []) (by kernel_rfl) .nil) (fun n {_} => gslices_IndexFunc_impl_Pair_impl_Pair__impl_BoxOk_1_L0 N n) (fun _ _ => by unfold gslices_IndexFunc_impl_Pair_impl_Pair__impl_BoxOk_1_L0; rw [slices_IndexFunc_impl_Pair_impl_Pair__impl_BoxOk_1_L0.zero]) (fun n {_} v K => eslices_IndexFunc_impl_Pair_impl_Pair__impl_BoxOk_1_L0 N n v K) N
theorem oqslices_IndexFunc_impl_Pair_impl_Pair__impl_BoxOk_1_L0 (N : Nat) : PieceOK gd P (islices_IndexFunc_impl_Pair_impl_Pair__impl_BoxOk_1 N) (.block 0 (.loop (codeAt bslices_IndexFunc_impl_Pair_impl_Pair__impl_BoxOk_1 [1, 0, 1, 0, 0]))) (qslices_IndexFunc_impl_Pair_impl_Pair__impl_BoxOk_1_L0 N) := (oslices_IndexFunc_impl_Pair_impl_Pair__impl_BoxOk_1_L0 N)
noncomputable def pslices_IndexFunc_impl_Pair_impl_Pair__impl_BoxOk_1 : Pt := ⟨[(.i (.sl (.pair (.int .i64) (.pair (.int .i64) .unit)))), (.f 80 [(.q (.int .i64))])], []⟩
noncomputable def gslices_IndexFunc_impl_Pair_impl_Pair__impl_BoxOk_1 (N : Nat) {α : Type} (v : pslices_IndexFunc_impl_Pair_impl_Pair__impl_BoxOk_1.V) (K : HV → List Blk → Option α) : Option α := slices_IndexFunc_impl_Pair_impl_Pair__impl_BoxOk_1 N v.1.1 v.1.2.1.1 (fun o0_0 => K (.iv (.int .i64) o0_0) [])
theorem eslices_IndexFunc_impl_Pair_impl_Pair__impl_BoxOk_1.b (N : Nat) {α : Type} (v : pslices_IndexFunc_impl_Pair_impl_Pair__impl_BoxOk_1.V) (K : HV → List Blk → Option α) : runFn env (ct21 N) (islices_IndexFunc_impl_Pair_impl_Pair__impl_BoxOk_1 N) Try.f81 (SP.mkL pslices_IndexFunc_impl_Pair_impl_Pair__impl_BoxOk_1.slots v.1) (BP.mkL pslices_IndexFunc_impl_Pair_impl_Pair__impl_BoxOk_1.store v.2) K = slices_IndexFunc_impl_Pair_impl_Pair__impl_BoxOk_1.b N v.1.1 v.1.2.1.1 (fun o0_0 => K (.iv (.int .i64) o0_0) []) := by kernel_rfl
theorem eslices_IndexFunc_impl_Pair_impl_Pair__impl_BoxOk_1 (N : Nat) {α : Type} (v : pslices_IndexFunc_impl_Pair_impl_Pair__impl_BoxOk_1.V) (K : HV → List Blk → Option α) : runFn env (ct21 N) (islices_IndexFunc_impl_Pair_impl_Pair__impl_BoxOk_1 N) Try.f81 (SP.mkL pslices_IndexFunc_impl_Pair_impl_Pair__impl_BoxOk_1.slots v.1) (BP.mkL pslices_IndexFunc_impl_Pair_impl_Pair__impl_BoxOk_1.store v.2) K = gslices_IndexFunc_impl_Pair_impl_Pair__impl_BoxOk_1 N v K := (eslices_IndexFunc_impl_Pair_impl_Pair__impl_BoxOk_1.b N v K).trans (by unfold gslices_IndexFunc_impl_Pair_impl_Pair__impl_BoxOk_1; rw [slices_IndexFunc_impl_Pair_impl_Pair__impl_BoxOk_1.eq])
theorem oslices_IndexFunc_impl_Pair_impl_Pair__impl_BoxOk_1 (N : Nat) : CalleeOK gd P 81 (mkCallee false pslices_IndexFunc_impl_Pair_impl_Pair__impl_BoxOk_1 (gslices_IndexFunc_impl_Pair_impl_Pair__impl_BoxOk_1 N)) :=
  callee_ok fun v K h => fn_snd hE hP (hct21 N) Try.func81 (by kernel_rfl) (body := bslices_IndexFunc_impl_Pair_impl_Pair__impl_BoxOk_1) (by kernel_rfl) (by kernel_rfl) (AllOK.of (F := islices_IndexFunc_impl_Pair_impl_Pair__impl_BoxOk_1 N) (l := [((.block 0 (.loop (codeAt bslices_IndexFunc_impl_Pair_impl_Pair__impl_BoxOk_1 [1, 0, 1, 0, 0]))), qslices_IndexFunc_impl_Pair_impl_Pair__impl_BoxOk_1_L0 N)]) (by kernel_rfl) (.cons (oqslices_IndexFunc_impl_Pair_impl_Pair__impl_BoxOk_1_L0 N) .nil)) (loans := BP.mkL pslices_IndexFunc_impl_Pair_impl_Pair__impl_BoxOk_1.store v.2) rfl ((eslices_IndexFunc_impl_Pair_impl_Pair__impl_BoxOk_1 N v K).trans h)
noncomputable def ct22 (N : Nat) : CT := (81, (mkCallee false pslices_IndexFunc_impl_Pair_impl_Pair__impl_BoxOk_1 (gslices_IndexFunc_impl_Pair_impl_Pair__impl_BoxOk_1 N))) :: ct21 N
theorem hct22 (N : Nat) : CTOK gd P (ct22 N) := .cons (oslices_IndexFunc_impl_Pair_impl_Pair__impl_BoxOk_1 N) (hct21 N)

noncomputable def islices_ContainsFunc_impl_Pair_impl_Pair__impl_BoxOk_1 (N : Nat) : Fi := { loans := 0, owns := false, results := [.tmp 4], rtys := [4], blks := [], regs := [], masks := [] }
noncomputable def bslices_ContainsFunc_impl_Pair_impl_Pair__impl_BoxOk_1 : Code := match Try.f62.body with | some c => c | none => .skip
noncomputable def pslices_ContainsFunc_impl_Pair_impl_Pair__impl_BoxOk_1 : Pt := ⟨[(.i (.sl (.pair (.int .i64) (.pair (.int .i64) .unit)))), (.f 80 [(.q (.int .i64))])], []⟩
noncomputable def gslices_ContainsFunc_impl_Pair_impl_Pair__impl_BoxOk_1 (N : Nat) {α : Type} (v : pslices_ContainsFunc_impl_Pair_impl_Pair__impl_BoxOk_1.V) (K : HV → List Blk → Option α) : Option α := slices_ContainsFunc_impl_Pair_impl_Pair__impl_BoxOk_1 N v.1.1 v.1.2.1.1 (fun o0_0 => K (.iv .bool o0_0) [])
theorem eslices_ContainsFunc_impl_Pair_impl_Pair__impl_BoxOk_1.b (N : Nat) {α : Type} (v : pslices_ContainsFunc_impl_Pair_impl_Pair__impl_BoxOk_1.V) (K : HV → List Blk → Option α) : runFn env (ct22 N) (islices_ContainsFunc_impl_Pair_impl_Pair__impl_BoxOk_1 N) Try.f62 (SP.mkL pslices_ContainsFunc_impl_Pair_impl_Pair__impl_BoxOk_1.slots v.1) (BP.mkL pslices_ContainsFunc_impl_Pair_impl_Pair__impl_BoxOk_1.store v.2) K = slices_ContainsFunc_impl_Pair_impl_Pair__impl_BoxOk_1.b N v.1.1 v.1.2.1.1 (fun o0_0 => K (.iv .bool o0_0) []) := by kernel_rfl
theorem eslices_ContainsFunc_impl_Pair_impl_Pair__impl_BoxOk_1 (N : Nat) {α : Type} (v : pslices_ContainsFunc_impl_Pair_impl_Pair__impl_BoxOk_1.V) (K : HV → List Blk → Option α) : runFn env (ct22 N) (islices_ContainsFunc_impl_Pair_impl_Pair__impl_BoxOk_1 N) Try.f62 (SP.mkL pslices_ContainsFunc_impl_Pair_impl_Pair__impl_BoxOk_1.slots v.1) (BP.mkL pslices_ContainsFunc_impl_Pair_impl_Pair__impl_BoxOk_1.store v.2) K = gslices_ContainsFunc_impl_Pair_impl_Pair__impl_BoxOk_1 N v K := (eslices_ContainsFunc_impl_Pair_impl_Pair__impl_BoxOk_1.b N v K).trans (by unfold gslices_ContainsFunc_impl_Pair_impl_Pair__impl_BoxOk_1; rw [slices_ContainsFunc_impl_Pair_impl_Pair__impl_BoxOk_1.eq])
theorem oslices_ContainsFunc_impl_Pair_impl_Pair__impl_BoxOk_1 (N : Nat) : CalleeOK gd P 62 (mkCallee false pslices_ContainsFunc_impl_Pair_impl_Pair__impl_BoxOk_1 (gslices_ContainsFunc_impl_Pair_impl_Pair__impl_BoxOk_1 N)) :=
  callee_ok fun v K h => fn_snd hE hP (hct22 N) Try.func62 (by kernel_rfl) (body := bslices_ContainsFunc_impl_Pair_impl_Pair__impl_BoxOk_1) (by kernel_rfl) (by kernel_rfl) (AllOK.of (F := islices_ContainsFunc_impl_Pair_impl_Pair__impl_BoxOk_1 N) (l := []) (by kernel_rfl) .nil) (loans := BP.mkL pslices_ContainsFunc_impl_Pair_impl_Pair__impl_BoxOk_1.store v.2) rfl ((eslices_ContainsFunc_impl_Pair_impl_Pair__impl_BoxOk_1 N v K).trans h)
noncomputable def ct23 (N : Nat) : CT := (62, (mkCallee false pslices_ContainsFunc_impl_Pair_impl_Pair__impl_BoxOk_1 (gslices_ContainsFunc_impl_Pair_impl_Pair__impl_BoxOk_1 N))) :: ct22 N
theorem hct23 (N : Nat) : CTOK gd P (ct23 N) := .cons (oslices_ContainsFunc_impl_Pair_impl_Pair__impl_BoxOk_1 N) (hct22 N)

noncomputable def iimpl_BoxOk (N : Nat) : Fi := { loans := 0, owns := false, results := [.tmp 4], rtys := [4], blks := [], regs := [], masks := [] }
noncomputable def bimpl_BoxOk : Code := match Try.f58.body with | some c => c | none => .skip
noncomputable def pimpl_BoxOk : Pt := ⟨[(.i (.int .i64)), (.i (.pair (.sl (.pair (.int .i64) (.pair (.int .i64) .unit))) .unit))], []⟩
noncomputable def gimpl_BoxOk (N : Nat) {α : Type} (v : pimpl_BoxOk.V) (K : HV → List Blk → Option α) : Option α := impl_BoxOk N v.1.1 v.1.2.1 (fun o0_0 => K (.iv .bool o0_0) [])
theorem eimpl_BoxOk.b (N : Nat) {α : Type} (v : pimpl_BoxOk.V) (K : HV → List Blk → Option α) : runFn env (ct23 N) (iimpl_BoxOk N) Try.f58 (SP.mkL pimpl_BoxOk.slots v.1) (BP.mkL pimpl_BoxOk.store v.2) K = impl_BoxOk.b N v.1.1 v.1.2.1 (fun o0_0 => K (.iv .bool o0_0) []) := by kernel_rfl
theorem eimpl_BoxOk (N : Nat) {α : Type} (v : pimpl_BoxOk.V) (K : HV → List Blk → Option α) : runFn env (ct23 N) (iimpl_BoxOk N) Try.f58 (SP.mkL pimpl_BoxOk.slots v.1) (BP.mkL pimpl_BoxOk.store v.2) K = gimpl_BoxOk N v K := (eimpl_BoxOk.b N v K).trans (by unfold gimpl_BoxOk; rw [impl_BoxOk.eq])
theorem oimpl_BoxOk (N : Nat) : CalleeOK gd P 58 (mkCallee false pimpl_BoxOk (gimpl_BoxOk N)) :=
  callee_ok fun v K h => fn_snd hE hP (hct23 N) Try.func58 (by kernel_rfl) (body := bimpl_BoxOk) (by kernel_rfl) (by kernel_rfl) (AllOK.of (F := iimpl_BoxOk N) (l := []) (by kernel_rfl) .nil) (loans := BP.mkL pimpl_BoxOk.store v.2) rfl ((eimpl_BoxOk N v K).trans h)
noncomputable def ct24 (N : Nat) : CT := (58, (mkCallee false pimpl_BoxOk (gimpl_BoxOk N))) :: ct23 N
theorem hct24 (N : Nat) : CTOK gd P (ct24 N) := .cons (oimpl_BoxOk N) (hct23 N)

noncomputable def iimpl_BitGap (N : Nat) : Fi := { loans := 0, owns := false, results := [.tmp 4], rtys := [35], blks := [], regs := [], masks := [] }
noncomputable def bimpl_BitGap : Code := match Try.f22.body with | some c => c | none => .skip
noncomputable def pimpl_BitGap : Pt := ⟨[(.i (.int .i64)), (.i (.int .i64))], []⟩
noncomputable def gimpl_BitGap (N : Nat) {α : Type} (v : pimpl_BitGap.V) (K : HV → List Blk → Option α) : Option α := impl_BitGap N v.1.1 v.1.2.1 (fun o0_0 => K (.iv (.int .u64) o0_0) [])
theorem eimpl_BitGap.b (N : Nat) {α : Type} (v : pimpl_BitGap.V) (K : HV → List Blk → Option α) : runFn env (ct24 N) (iimpl_BitGap N) Try.f22 (SP.mkL pimpl_BitGap.slots v.1) (BP.mkL pimpl_BitGap.store v.2) K = impl_BitGap.b N v.1.1 v.1.2.1 (fun o0_0 => K (.iv (.int .u64) o0_0) []) := by kernel_rfl
theorem eimpl_BitGap (N : Nat) {α : Type} (v : pimpl_BitGap.V) (K : HV → List Blk → Option α) : runFn env (ct24 N) (iimpl_BitGap N) Try.f22 (SP.mkL pimpl_BitGap.slots v.1) (BP.mkL pimpl_BitGap.store v.2) K = gimpl_BitGap N v K := (eimpl_BitGap.b N v K).trans (by unfold gimpl_BitGap; rw [impl_BitGap.eq])
theorem oimpl_BitGap (N : Nat) : CalleeOK gd P 22 (mkCallee false pimpl_BitGap (gimpl_BitGap N)) :=
  callee_ok fun v K h => fn_snd hE hP (hct24 N) Try.func22 (by kernel_rfl) (body := bimpl_BitGap) (by kernel_rfl) (by kernel_rfl) (AllOK.of (F := iimpl_BitGap N) (l := []) (by kernel_rfl) .nil) (loans := BP.mkL pimpl_BitGap.store v.2) rfl ((eimpl_BitGap N v K).trans h)
noncomputable def ct25 (N : Nat) : CT := (22, (mkCallee false pimpl_BitGap (gimpl_BitGap N))) :: ct24 N
theorem hct25 (N : Nat) : CTOK gd P (ct25 N) := .cons (oimpl_BitGap N) (hct24 N)

noncomputable def iimpl_Pair_steps (N : Nat) : Fi := { loans := 0, owns := false, results := [.tmp 2], rtys := [35], blks := [], regs := [], masks := [] }
noncomputable def bimpl_Pair_steps : Code := match Try.f48.body with | some c => c | none => .skip
noncomputable def pimpl_Pair_steps : Pt := ⟨[(.i (.pair (.int .i64) (.pair (.int .i64) .unit)))], []⟩
noncomputable def gimpl_Pair_steps (N : Nat) {α : Type} (v : pimpl_Pair_steps.V) (K : HV → List Blk → Option α) : Option α := impl_Pair_steps N v.1.1 (fun o0_0 => K (.iv (.int .u64) o0_0) [])
theorem eimpl_Pair_steps.b (N : Nat) {α : Type} (v : pimpl_Pair_steps.V) (K : HV → List Blk → Option α) : runFn env (ct25 N) (iimpl_Pair_steps N) Try.f48 (SP.mkL pimpl_Pair_steps.slots v.1) (BP.mkL pimpl_Pair_steps.store v.2) K = impl_Pair_steps.b N v.1.1 (fun o0_0 => K (.iv (.int .u64) o0_0) []) := by kernel_rfl
theorem eimpl_Pair_steps (N : Nat) {α : Type} (v : pimpl_Pair_steps.V) (K : HV → List Blk → Option α) : runFn env (ct25 N) (iimpl_Pair_steps N) Try.f48 (SP.mkL pimpl_Pair_steps.slots v.1) (BP.mkL pimpl_Pair_steps.store v.2) K = gimpl_Pair_steps N v K := (eimpl_Pair_steps.b N v K).trans (by unfold gimpl_Pair_steps; rw [impl_Pair_steps.eq])
theorem oimpl_Pair_steps (N : Nat) : CalleeOK gd P 48 (mkCallee false pimpl_Pair_steps (gimpl_Pair_steps N)) :=
  callee_ok fun v K h => fn_snd hE hP (hct25 N) Try.func48 (by kernel_rfl) (body := bimpl_Pair_steps) (by kernel_rfl) (by kernel_rfl) (AllOK.of (F := iimpl_Pair_steps N) (l := []) (by kernel_rfl) .nil) (loans := BP.mkL pimpl_Pair_steps.store v.2) rfl ((eimpl_Pair_steps N v K).trans h)
noncomputable def ct26 (N : Nat) : CT := (48, (mkCallee false pimpl_Pair_steps (gimpl_Pair_steps N))) :: ct25 N
theorem hct26 (N : Nat) : CTOK gd P (ct26 N) := .cons (oimpl_Pair_steps N) (hct25 N)

noncomputable def iimpl_PairCut (N : Nat) : Fi := { loans := 0, owns := false, results := [.cell 6 24, .cell 7 24, .tmp 8], rtys := [24, 24, 4], blks := [], regs := [], masks := [] }
noncomputable def bimpl_PairCut : Code := match Try.f19.body with | some c => c | none => .skip
noncomputable def pimpl_PairCut : Pt := ⟨[(.i (.int .i64)), (.i (.pair (.int .i64) (.pair (.int .i64) .unit))), (.i (.pair (.int .i64) (.pair (.int .i64) .unit)))], []⟩
noncomputable def gimpl_PairCut (N : Nat) {α : Type} (v : pimpl_PairCut.V) (K : HV → List Blk → Option α) : Option α := impl_PairCut N v.1.1 v.1.2.1 v.1.2.2.1 (fun o0_0 o0_1 o0_2 => K (.tuple [(.iv (.pair (.int .i64) (.pair (.int .i64) .unit)) o0_0), (.iv (.pair (.int .i64) (.pair (.int .i64) .unit)) o0_1), (.iv .bool o0_2)]) [])
theorem eimpl_PairCut.b (N : Nat) {α : Type} (v : pimpl_PairCut.V) (K : HV → List Blk → Option α) : runFn env (ct26 N) (iimpl_PairCut N) Try.f19 (SP.mkL pimpl_PairCut.slots v.1) (BP.mkL pimpl_PairCut.store v.2) K = impl_PairCut.b N v.1.1 v.1.2.1 v.1.2.2.1 (fun o0_0 o0_1 o0_2 => K (.tuple [(.iv (.pair (.int .i64) (.pair (.int .i64) .unit)) o0_0), (.iv (.pair (.int .i64) (.pair (.int .i64) .unit)) o0_1), (.iv .bool o0_2)]) []) := by kernel_rfl
theorem eimpl_PairCut (N : Nat) {α : Type} (v : pimpl_PairCut.V) (K : HV → List Blk → Option α) : runFn env (ct26 N) (iimpl_PairCut N) Try.f19 (SP.mkL pimpl_PairCut.slots v.1) (BP.mkL pimpl_PairCut.store v.2) K = gimpl_PairCut N v K := (eimpl_PairCut.b N v K).trans (by unfold gimpl_PairCut; rw [impl_PairCut.eq])
theorem oimpl_PairCut (N : Nat) : CalleeOK gd P 19 (mkCallee false pimpl_PairCut (gimpl_PairCut N)) :=
  callee_ok fun v K h => fn_snd hE hP (hct26 N) Try.func19 (by kernel_rfl) (body := bimpl_PairCut) (by kernel_rfl) (by kernel_rfl) (AllOK.of (F := iimpl_PairCut N) (l := []) (by kernel_rfl) .nil) (loans := BP.mkL pimpl_PairCut.store v.2) rfl ((eimpl_PairCut N v K).trans h)
noncomputable def ct27 (N : Nat) : CT := (19, (mkCallee false pimpl_PairCut (gimpl_PairCut N))) :: ct26 N
theorem hct27 (N : Nat) : CTOK gd P (ct27 N) := .cons (oimpl_PairCut N) (hct26 N)

noncomputable def iimpl_BoxCut_1 (N : Nat) : Fi := { loans := 0, owns := false, results := [.cell 4 24, .cell 5 24, .tmp 6], rtys := [24, 24, 4], blks := [], regs := [], masks := [] }
noncomputable def bimpl_BoxCut_1 : Code := match Try.f74.body with | some c => c | none => .skip
noncomputable def pimpl_BoxCut_1 : Pt := ⟨[(.i (.pair (.int .i64) (.pair (.int .i64) .unit))), (.q (.int .i64)), (.q (.pair (.int .i64) (.pair (.int .i64) .unit)))], []⟩
noncomputable def gimpl_BoxCut_1 (N : Nat) {α : Type} (v : pimpl_BoxCut_1.V) (K : HV → List Blk → Option α) : Option α := impl_BoxCut_1 N v.1.1 v.1.2.1 v.1.2.2.1 (fun o0_0 o0_1 o0_2 => K (.tuple [(.iv (.pair (.int .i64) (.pair (.int .i64) .unit)) o0_0), (.iv (.pair (.int .i64) (.pair (.int .i64) .unit)) o0_1), (.iv .bool o0_2)]) [])
theorem eimpl_BoxCut_1.b (N : Nat) {α : Type} (v : pimpl_BoxCut_1.V) (K : HV → List Blk → Option α) : runFn env (ct27 N) (iimpl_BoxCut_1 N) Try.f74 (SP.mkL pimpl_BoxCut_1.slots v.1) (BP.mkL pimpl_BoxCut_1.store v.2) K = impl_BoxCut_1.b N v.1.1 v.1.2.1 v.1.2.2.1 (fun o0_0 o0_1 o0_2 => K (.tuple [(.iv (.pair (.int .i64) (.pair (.int .i64) .unit)) o0_0), (.iv (.pair (.int .i64) (.pair (.int .i64) .unit)) o0_1), (.iv .bool o0_2)]) []) := by kernel_rfl
theorem eimpl_BoxCut_1 (N : Nat) {α : Type} (v : pimpl_BoxCut_1.V) (K : HV → List Blk → Option α) : runFn env (ct27 N) (iimpl_BoxCut_1 N) Try.f74 (SP.mkL pimpl_BoxCut_1.slots v.1) (BP.mkL pimpl_BoxCut_1.store v.2) K = gimpl_BoxCut_1 N v K := (eimpl_BoxCut_1.b N v K).trans (by unfold gimpl_BoxCut_1; rw [impl_BoxCut_1.eq])
theorem oimpl_BoxCut_1 (N : Nat) : CalleeOK gd P 74 (mkCallee false pimpl_BoxCut_1 (gimpl_BoxCut_1 N)) :=
  callee_ok fun v K h => fn_snd hE hP (hct27 N) Try.func74 (by kernel_rfl) (body := bimpl_BoxCut_1) (by kernel_rfl) (by kernel_rfl) (AllOK.of (F := iimpl_BoxCut_1 N) (l := []) (by kernel_rfl) .nil) (loans := BP.mkL pimpl_BoxCut_1.store v.2) rfl ((eimpl_BoxCut_1 N v K).trans h)
noncomputable def ct28 (N : Nat) : CT := (74, (mkCallee false pimpl_BoxCut_1 (gimpl_BoxCut_1 N))) :: ct27 N
theorem hct28 (N : Nat) : CTOK gd P (ct28 N) := .cons (oimpl_BoxCut_1 N) (hct27 N)

noncomputable def islices_Clone_impl_Pair_impl_Pair (N : Nat) : Fi := { loans := 0, owns := true, results := [.tmp 2], rtys := [44], blks := [], regs := [], masks := [] }
noncomputable def bslices_Clone_impl_Pair_impl_Pair : Code := match Try.f92.body with | some c => c | none => .skip
noncomputable def pslices_Clone_impl_Pair_impl_Pair : Pt := ⟨[(.i (.sl (.pair (.int .i64) (.pair (.int .i64) .unit))))], []⟩
noncomputable def gslices_Clone_impl_Pair_impl_Pair (N : Nat) {α : Type} (v : pslices_Clone_impl_Pair_impl_Pair.V) (K : HV → List Blk → Option α) : Option α := slices_Clone_impl_Pair_impl_Pair N v.1.1 (fun x => K (.own 0) [.arr 24 (.pair (.int .i64) (.pair (.int .i64) .unit)) x false])
theorem oslices_Clone_impl_Pair_impl_Pair (N : Nat) : CalleeOK gd P 92 (mkCallee false pslices_Clone_impl_Pair_impl_Pair (gslices_Clone_impl_Pair_impl_Pair N)) :=
  clone_ok hE hP (hct28 N) Try.func92 (by kernel_rfl) (body := bslices_Clone_impl_Pair_impl_Pair) (by kernel_rfl) (F := islices_Clone_impl_Pair_impl_Pair N) (by kernel_rfl) (AllOK.of (F := islices_Clone_impl_Pair_impl_Pair N) (l := []) (by kernel_rfl) .nil) rfl (t := (.pair (.int .i64) (.pair (.int .i64) .unit))) (e := 24) (l := 8796093022208) (fun _ => by kernel_rfl) (fun _ _ => by kernel_rfl)
noncomputable def ct29 (N : Nat) : CT := (92, (mkCallee false pslices_Clone_impl_Pair_impl_Pair (gslices_Clone_impl_Pair_impl_Pair N))) :: ct28 N
theorem hct29 (N : Nat) : CTOK gd P (ct29 N) := .cons (oslices_Clone_impl_Pair_impl_Pair N) (hct28 N)

noncomputable def islices_Clip_impl_Pair_impl_Pair (N : Nat) : Fi := { loans := 1, owns := true, results := [.tmp 2], rtys := [44], blks := [], regs := [], masks := [] }
noncomputable def bslices_Clip_impl_Pair_impl_Pair : Code := match Try.f91.body with | some c => c | none => .skip
noncomputable def pslices_Clip_impl_Pair_impl_Pair : Pt := ⟨[(.o 0)], [(.arr 24 (.pair (.int .i64) (.pair (.int .i64) .unit)) false)]⟩
noncomputable def gslices_Clip_impl_Pair_impl_Pair (N : Nat) {α : Type} (v : pslices_Clip_impl_Pair_impl_Pair.V) (K : HV → List Blk → Option α) : Option α := slices_Clip_impl_Pair_impl_Pair N v.2.1 (fun o0_0 => K (.own 1) [.gone, (.arr 24 (.pair (.int .i64) (.pair (.int .i64) .unit)) o0_0 false)])
theorem eslices_Clip_impl_Pair_impl_Pair.b (N : Nat) {α : Type} (v : pslices_Clip_impl_Pair_impl_Pair.V) (K : HV → List Blk → Option α) : runFn env (ct29 N) (islices_Clip_impl_Pair_impl_Pair N) Try.f91 (SP.mkL pslices_Clip_impl_Pair_impl_Pair.slots v.1) (BP.mkL pslices_Clip_impl_Pair_impl_Pair.store v.2) K = slices_Clip_impl_Pair_impl_Pair.b N v.2.1 (fun o0_0 => K (.own 1) [.gone, (.arr 24 (.pair (.int .i64) (.pair (.int .i64) .unit)) o0_0 false)]) := by kernel_rfl
theorem eslices_Clip_impl_Pair_impl_Pair (N : Nat) {α : Type} (v : pslices_Clip_impl_Pair_impl_Pair.V) (K : HV → List Blk → Option α) : runFn env (ct29 N) (islices_Clip_impl_Pair_impl_Pair N) Try.f91 (SP.mkL pslices_Clip_impl_Pair_impl_Pair.slots v.1) (BP.mkL pslices_Clip_impl_Pair_impl_Pair.store v.2) K = gslices_Clip_impl_Pair_impl_Pair N v K := (eslices_Clip_impl_Pair_impl_Pair.b N v K).trans (by unfold gslices_Clip_impl_Pair_impl_Pair; rw [slices_Clip_impl_Pair_impl_Pair.eq])
theorem oslices_Clip_impl_Pair_impl_Pair (N : Nat) : CalleeOK gd P 91 (mkCallee true pslices_Clip_impl_Pair_impl_Pair (gslices_Clip_impl_Pair_impl_Pair N)) :=
  callee_ok fun v K h => fn_snd hE hP (hct29 N) Try.func91 (by kernel_rfl) (body := bslices_Clip_impl_Pair_impl_Pair) (by kernel_rfl) (by kernel_rfl) (AllOK.of (F := islices_Clip_impl_Pair_impl_Pair N) (l := []) (by kernel_rfl) .nil) (loans := BP.mkL pslices_Clip_impl_Pair_impl_Pair.store v.2) rfl ((eslices_Clip_impl_Pair_impl_Pair N v K).trans h)
noncomputable def ct30 (N : Nat) : CT := (91, (mkCallee true pslices_Clip_impl_Pair_impl_Pair (gslices_Clip_impl_Pair_impl_Pair N))) :: ct29 N
theorem hct30 (N : Nat) : CTOK gd P (ct30 N) := .cons (oslices_Clip_impl_Pair_impl_Pair N) (hct29 N)

noncomputable def iimpl_clone_impl_Pair (N : Nat) : Fi := { loans := 0, owns := true, results := [.tmp 2], rtys := [44], blks := [], regs := [], masks := [] }
noncomputable def bimpl_clone_impl_Pair : Code := match Try.f90.body with | some c => c | none => .skip
noncomputable def pimpl_clone_impl_Pair : Pt := ⟨[(.i (.sl (.pair (.int .i64) (.pair (.int .i64) .unit))))], []⟩
noncomputable def gimpl_clone_impl_Pair (N : Nat) {α : Type} (v : pimpl_clone_impl_Pair.V) (K : HV → List Blk → Option α) : Option α := impl_clone_impl_Pair N v.1.1 (fun o0_0 => K (.own 0) [(.arr 24 (.pair (.int .i64) (.pair (.int .i64) .unit)) o0_0 false)])
theorem eimpl_clone_impl_Pair.b (N : Nat) {α : Type} (v : pimpl_clone_impl_Pair.V) (K : HV → List Blk → Option α) : runFn env (ct30 N) (iimpl_clone_impl_Pair N) Try.f90 (SP.mkL pimpl_clone_impl_Pair.slots v.1) (BP.mkL pimpl_clone_impl_Pair.store v.2) K = impl_clone_impl_Pair.b N v.1.1 (fun o0_0 => K (.own 0) [(.arr 24 (.pair (.int .i64) (.pair (.int .i64) .unit)) o0_0 false)]) := by kernel_rfl
theorem eimpl_clone_impl_Pair (N : Nat) {α : Type} (v : pimpl_clone_impl_Pair.V) (K : HV → List Blk → Option α) : runFn env (ct30 N) (iimpl_clone_impl_Pair N) Try.f90 (SP.mkL pimpl_clone_impl_Pair.slots v.1) (BP.mkL pimpl_clone_impl_Pair.store v.2) K = gimpl_clone_impl_Pair N v K := (eimpl_clone_impl_Pair.b N v K).trans (by unfold gimpl_clone_impl_Pair; rw [impl_clone_impl_Pair.eq])
theorem oimpl_clone_impl_Pair (N : Nat) : CalleeOK gd P 90 (mkCallee false pimpl_clone_impl_Pair (gimpl_clone_impl_Pair N)) :=
  callee_ok fun v K h => fn_snd hE hP (hct30 N) Try.func90 (by kernel_rfl) (body := bimpl_clone_impl_Pair) (by kernel_rfl) (by kernel_rfl) (AllOK.of (F := iimpl_clone_impl_Pair N) (l := []) (by kernel_rfl) .nil) (loans := BP.mkL pimpl_clone_impl_Pair.store v.2) rfl ((eimpl_clone_impl_Pair N v K).trans h)
noncomputable def ct31 (N : Nat) : CT := (90, (mkCallee false pimpl_clone_impl_Pair (gimpl_clone_impl_Pair N))) :: ct30 N
theorem hct31 (N : Nat) : CTOK gd P (ct31 N) := .cons (oimpl_clone_impl_Pair N) (hct30 N)

noncomputable def iimpl_Box_with (N : Nat) : Fi := { loans := 0, owns := true, results := [.cell 6 46], rtys := [46], blks := [], regs := [], masks := [] }
noncomputable def bimpl_Box_with : Code := match Try.f86.body with | some c => c | none => .skip
noncomputable def pimpl_Box_with : Pt := ⟨[(.i (.pair (.sl (.pair (.int .i64) (.pair (.int .i64) .unit))) .unit)), (.i (.int .i64)), (.i (.pair (.int .i64) (.pair (.int .i64) .unit)))], []⟩
noncomputable def gimpl_Box_with (N : Nat) {α : Type} (v : pimpl_Box_with.V) (K : HV → List Blk → Option α) : Option α := impl_Box_with N v.1.1 v.1.2.1 v.1.2.2.1 (fun o0_0 => K (.agg [(.own 0)]) [(.arr 24 (.pair (.int .i64) (.pair (.int .i64) .unit)) o0_0 false)])
theorem eimpl_Box_with.b (N : Nat) {α : Type} (v : pimpl_Box_with.V) (K : HV → List Blk → Option α) : runFn env (ct31 N) (iimpl_Box_with N) Try.f86 (SP.mkL pimpl_Box_with.slots v.1) (BP.mkL pimpl_Box_with.store v.2) K = impl_Box_with.b N v.1.1 v.1.2.1 v.1.2.2.1 (fun o0_0 => K (.agg [(.own 0)]) [(.arr 24 (.pair (.int .i64) (.pair (.int .i64) .unit)) o0_0 false)]) := by kernel_rfl
theorem eimpl_Box_with (N : Nat) {α : Type} (v : pimpl_Box_with.V) (K : HV → List Blk → Option α) : runFn env (ct31 N) (iimpl_Box_with N) Try.f86 (SP.mkL pimpl_Box_with.slots v.1) (BP.mkL pimpl_Box_with.store v.2) K = gimpl_Box_with N v K := (eimpl_Box_with.b N v K).trans (by unfold gimpl_Box_with; rw [impl_Box_with.eq])
theorem oimpl_Box_with (N : Nat) : CalleeOK gd P 86 (mkCallee false pimpl_Box_with (gimpl_Box_with N)) :=
  callee_ok fun v K h => fn_snd hE hP (hct31 N) Try.func86 (by kernel_rfl) (body := bimpl_Box_with) (by kernel_rfl) (by kernel_rfl) (AllOK.of (F := iimpl_Box_with N) (l := []) (by kernel_rfl) .nil) (loans := BP.mkL pimpl_Box_with.store v.2) rfl ((eimpl_Box_with N v K).trans h)
noncomputable def ct32 (N : Nat) : CT := (86, (mkCallee false pimpl_Box_with (gimpl_Box_with N))) :: ct31 N
theorem hct32 (N : Nat) : CTOK gd P (ct32 N) := .cons (oimpl_Box_with N) (hct31 N)

noncomputable def iimpl_Box_parts__impl_BoxCut_1 (N : Nat) : Fi := { loans := 0, owns := true, results := [.cell 8 46, .cell 9 46, .tmp 10], rtys := [46, 46, 4], blks := [], regs := [], masks := [] }
noncomputable def bimpl_Box_parts__impl_BoxCut_1 : Code := match Try.f70.body with | some c => c | none => .skip
noncomputable def pimpl_Box_parts__impl_BoxCut_1 : Pt := ⟨[(.i (.pair (.sl (.pair (.int .i64) (.pair (.int .i64) .unit))) .unit)), (.i (.int .i64)), (.i (.int .i64)), (.f 74 [(.q (.int .i64)), (.q (.pair (.int .i64) (.pair (.int .i64) .unit)))])], []⟩
noncomputable def gimpl_Box_parts__impl_BoxCut_1 (N : Nat) {α : Type} (v : pimpl_Box_parts__impl_BoxCut_1.V) (K : HV → List Blk → Option α) : Option α := impl_Box_parts__impl_BoxCut_1 N v.1.1 v.1.2.1 v.1.2.2.1 v.1.2.2.2.1.1 v.1.2.2.2.1.2.1 (fun o0_0 o0_1 o0_2 => K (.tuple [(.agg [(.own 0)]), (.agg [(.own 1)]), (.iv .bool o0_0)]) [(.arr 24 (.pair (.int .i64) (.pair (.int .i64) .unit)) o0_1 false), (.arr 24 (.pair (.int .i64) (.pair (.int .i64) .unit)) o0_2 false)])
theorem eimpl_Box_parts__impl_BoxCut_1.b (N : Nat) {α : Type} (v : pimpl_Box_parts__impl_BoxCut_1.V) (K : HV → List Blk → Option α) : runFn env (ct32 N) (iimpl_Box_parts__impl_BoxCut_1 N) Try.f70 (SP.mkL pimpl_Box_parts__impl_BoxCut_1.slots v.1) (BP.mkL pimpl_Box_parts__impl_BoxCut_1.store v.2) K = impl_Box_parts__impl_BoxCut_1.b N v.1.1 v.1.2.1 v.1.2.2.1 v.1.2.2.2.1.1 v.1.2.2.2.1.2.1 (fun o0_0 o0_1 o0_2 => K (.tuple [(.agg [(.own 0)]), (.agg [(.own 1)]), (.iv .bool o0_0)]) [(.arr 24 (.pair (.int .i64) (.pair (.int .i64) .unit)) o0_1 false), (.arr 24 (.pair (.int .i64) (.pair (.int .i64) .unit)) o0_2 false)]) := by kernel_rfl
theorem eimpl_Box_parts__impl_BoxCut_1 (N : Nat) {α : Type} (v : pimpl_Box_parts__impl_BoxCut_1.V) (K : HV → List Blk → Option α) : runFn env (ct32 N) (iimpl_Box_parts__impl_BoxCut_1 N) Try.f70 (SP.mkL pimpl_Box_parts__impl_BoxCut_1.slots v.1) (BP.mkL pimpl_Box_parts__impl_BoxCut_1.store v.2) K = gimpl_Box_parts__impl_BoxCut_1 N v K := (eimpl_Box_parts__impl_BoxCut_1.b N v K).trans (by unfold gimpl_Box_parts__impl_BoxCut_1; rw [impl_Box_parts__impl_BoxCut_1.eq])
theorem oimpl_Box_parts__impl_BoxCut_1 (N : Nat) : CalleeOK gd P 70 (mkCallee false pimpl_Box_parts__impl_BoxCut_1 (gimpl_Box_parts__impl_BoxCut_1 N)) :=
  callee_ok fun v K h => fn_snd hE hP (hct32 N) Try.func70 (by kernel_rfl) (body := bimpl_Box_parts__impl_BoxCut_1) (by kernel_rfl) (by kernel_rfl) (AllOK.of (F := iimpl_Box_parts__impl_BoxCut_1 N) (l := []) (by kernel_rfl) .nil) (loans := BP.mkL pimpl_Box_parts__impl_BoxCut_1.store v.2) rfl ((eimpl_Box_parts__impl_BoxCut_1 N v K).trans h)
noncomputable def ct33 (N : Nat) : CT := (70, (mkCallee false pimpl_Box_parts__impl_BoxCut_1 (gimpl_Box_parts__impl_BoxCut_1 N))) :: ct32 N
theorem hct33 (N : Nat) : CTOK gd P (ct33 N) := .cons (oimpl_Box_parts__impl_BoxCut_1 N) (hct32 N)

noncomputable def iimpl_BoxCut (N : Nat) : Fi := { loans := 0, owns := true, results := [.cell 8 46, .cell 9 46, .tmp 10], rtys := [46, 46, 4], blks := [], regs := [], masks := [] }
noncomputable def bimpl_BoxCut : Code := match Try.f44.body with | some c => c | none => .skip
noncomputable def pimpl_BoxCut : Pt := ⟨[(.i (.int .i64)), (.i (.pair (.sl (.pair (.int .i64) (.pair (.int .i64) .unit))) .unit)), (.i (.int .i64)), (.i (.pair (.int .i64) (.pair (.int .i64) .unit)))], []⟩
noncomputable def gimpl_BoxCut (N : Nat) {α : Type} (v : pimpl_BoxCut.V) (K : HV → List Blk → Option α) : Option α := impl_BoxCut N v.1.1 v.1.2.1 v.1.2.2.1 v.1.2.2.2.1 (fun o0_0 o0_1 o0_2 => K (.tuple [(.agg [(.own 0)]), (.agg [(.own 1)]), (.iv .bool o0_0)]) [(.arr 24 (.pair (.int .i64) (.pair (.int .i64) .unit)) o0_1 false), (.arr 24 (.pair (.int .i64) (.pair (.int .i64) .unit)) o0_2 false)])
theorem eimpl_BoxCut.b (N : Nat) {α : Type} (v : pimpl_BoxCut.V) (K : HV → List Blk → Option α) : runFn env (ct33 N) (iimpl_BoxCut N) Try.f44 (SP.mkL pimpl_BoxCut.slots v.1) (BP.mkL pimpl_BoxCut.store v.2) K = impl_BoxCut.b N v.1.1 v.1.2.1 v.1.2.2.1 v.1.2.2.2.1 (fun o0_0 o0_1 o0_2 => K (.tuple [(.agg [(.own 0)]), (.agg [(.own 1)]), (.iv .bool o0_0)]) [(.arr 24 (.pair (.int .i64) (.pair (.int .i64) .unit)) o0_1 false), (.arr 24 (.pair (.int .i64) (.pair (.int .i64) .unit)) o0_2 false)]) := by kernel_rfl
theorem eimpl_BoxCut (N : Nat) {α : Type} (v : pimpl_BoxCut.V) (K : HV → List Blk → Option α) : runFn env (ct33 N) (iimpl_BoxCut N) Try.f44 (SP.mkL pimpl_BoxCut.slots v.1) (BP.mkL pimpl_BoxCut.store v.2) K = gimpl_BoxCut N v K := (eimpl_BoxCut.b N v K).trans (by unfold gimpl_BoxCut; rw [impl_BoxCut.eq])
theorem oimpl_BoxCut (N : Nat) : CalleeOK gd P 44 (mkCallee false pimpl_BoxCut (gimpl_BoxCut N)) :=
  callee_ok fun v K h => fn_snd hE hP (hct33 N) Try.func44 (by kernel_rfl) (body := bimpl_BoxCut) (by kernel_rfl) (by kernel_rfl) (AllOK.of (F := iimpl_BoxCut N) (l := []) (by kernel_rfl) .nil) (loans := BP.mkL pimpl_BoxCut.store v.2) rfl ((eimpl_BoxCut N v K).trans h)
noncomputable def ct34 (N : Nat) : CT := (44, (mkCallee false pimpl_BoxCut (gimpl_BoxCut N))) :: ct33 N
theorem hct34 (N : Nat) : CTOK gd P (ct34 N) := .cons (oimpl_BoxCut N) (hct33 N)

noncomputable def ilaws_eqPair (N : Nat) : Fi := { loans := 0, owns := false, results := [.tmp 4], rtys := [4], blks := [], regs := [], masks := [] }
noncomputable def blaws_eqPair : Code := match Try.f17.body with | some c => c | none => .skip
noncomputable def plaws_eqPair : Pt := ⟨[(.i (.pair (.int .i64) (.pair (.int .i64) .unit))), (.i (.pair (.int .i64) (.pair (.int .i64) .unit)))], []⟩
noncomputable def glaws_eqPair (N : Nat) {α : Type} (v : plaws_eqPair.V) (K : HV → List Blk → Option α) : Option α := laws_eqPair N v.1.1 v.1.2.1 (fun o0_0 => K (.iv .bool o0_0) [])
theorem elaws_eqPair.b (N : Nat) {α : Type} (v : plaws_eqPair.V) (K : HV → List Blk → Option α) : runFn env (ct34 N) (ilaws_eqPair N) Try.f17 (SP.mkL plaws_eqPair.slots v.1) (BP.mkL plaws_eqPair.store v.2) K = laws_eqPair.b N v.1.1 v.1.2.1 (fun o0_0 => K (.iv .bool o0_0) []) := by kernel_rfl
theorem elaws_eqPair (N : Nat) {α : Type} (v : plaws_eqPair.V) (K : HV → List Blk → Option α) : runFn env (ct34 N) (ilaws_eqPair N) Try.f17 (SP.mkL plaws_eqPair.slots v.1) (BP.mkL plaws_eqPair.store v.2) K = glaws_eqPair N v K := (elaws_eqPair.b N v K).trans (by unfold glaws_eqPair; rw [laws_eqPair.eq])
theorem olaws_eqPair (N : Nat) : CalleeOK gd P 17 (mkCallee false plaws_eqPair (glaws_eqPair N)) :=
  callee_ok fun v K h => fn_snd hE hP (hct34 N) Try.func17 (by kernel_rfl) (body := blaws_eqPair) (by kernel_rfl) (by kernel_rfl) (AllOK.of (F := ilaws_eqPair N) (l := []) (by kernel_rfl) .nil) (loans := BP.mkL plaws_eqPair.store v.2) rfl ((elaws_eqPair N v K).trans h)
noncomputable def ct35 (N : Nat) : CT := (17, (mkCallee false plaws_eqPair (glaws_eqPair N))) :: ct34 N
theorem hct35 (N : Nat) : CTOK gd P (ct35 N) := .cons (olaws_eqPair N) (hct34 N)

noncomputable def plaws_eqPairS_L0 : Pt := ⟨[(.i (.sl (.pair (.int .i64) (.pair (.int .i64) .unit)))), (.i (.sl (.pair (.int .i64) (.pair (.int .i64) .unit)))), .u, .u, .u, (.i (.int .i64)), .u, .u, .u, .u, .u, .u, .u, .u, .u, .u, .u, .u, .u, .u, .u, .u, .u, .u, .u, .u, .u], []⟩
noncomputable def glaws_eqPairS_L0 (N n : Nat) {α : Type} (v : plaws_eqPairS_L0.V) (K : Out → Option α) : Option α := laws_eqPairS_L0 N n v.1.1 v.1.2.1 v.1.2.2.2.2.2.1 (fun o0_0 => K (.ret (.iv .bool o0_0) [])) (K (.normal ⟨[.undef, .undef, .undef, .undef, .undef, .undef, .undef, .undef, .undef, .undef, .undef, .undef, .undef, .undef, .undef, .undef, .undef, .undef, .undef, .undef, .undef, .undef, .undef, .undef, .undef, .undef, .undef], []⟩))
noncomputable def qlaws_eqPairS_L0 (N : Nat) : Piece := (mkPiece 35 plaws_eqPairS_L0 (glaws_eqPairS_L0 N N))
noncomputable def ilaws_eqPairS (N : Nat) : Fi := { loans := 0, owns := false, results := [.tmp 4], rtys := [4], blks := [(0, qlaws_eqPairS_L0 N)], regs := [], masks := [(0, 0)] }
noncomputable def blaws_eqPairS : Code := match Try.f59.body with | some c => c | none => .skip
theorem elaws_eqPairS_L0.b (N n : Nat) {α : Type} (v : plaws_eqPairS_L0.V) (K : Out → Option α) : runRound env (ct35 N) (ilaws_eqPairS N) 35 (mkPiece 35 plaws_eqPairS_L0 (glaws_eqPairS_L0 N n)).run (.block 0 (.loop (codeAt blaws_eqPairS [1, 1, 0, 1, 0, 0]))) (plaws_eqPairS_L0.mk' v) K = laws_eqPairS_L0r N (fun y0 y1 y2 => laws_eqPairS_L0 N n y0 y1 y2 (fun o0_0 => K (.ret (.iv .bool o0_0) [])) (K (.normal ⟨[.undef, .undef, .undef, .undef, .undef, .undef, .undef, .undef, .undef, .undef, .undef, .undef, .undef, .undef, .undef, .undef, .undef, .undef, .undef, .undef, .undef, .undef, .undef, .undef, .undef, .undef, .undef], []⟩))) (fun o0_0 => K (.ret (.iv .bool o0_0) [])) (K (.normal ⟨[.undef, .undef, .undef, .undef, .undef, .undef, .undef, .undef, .undef, .undef, .undef, .undef, .undef, .undef, .undef, .undef, .undef, .undef, .undef, .undef, .undef, .undef, .undef, .undef, .undef, .undef, .undef], []⟩)) v.1.1 v.1.2.1 v.1.2.2.2.2.2.1 := by kernel_rfl
theorem elaws_eqPairS_L0 (N n : Nat) {α : Type} (v : plaws_eqPairS_L0.V) (K : Out → Option α) : runRound env (ct35 N) (ilaws_eqPairS N) 35 (mkPiece 35 plaws_eqPairS_L0 (glaws_eqPairS_L0 N n)).run (.block 0 (.loop (codeAt blaws_eqPairS [1, 1, 0, 1, 0, 0]))) (plaws_eqPairS_L0.mk' v) K = glaws_eqPairS_L0 N (n + 1) v K := (elaws_eqPairS_L0.b N n v K).trans (by unfold glaws_eqPairS_L0; rw [laws_eqPairS_L0.succ])
theorem olaws_eqPairS_L0 (N : Nat) : PieceOK gd P (ilaws_eqPairS N) (.block 0 (.loop (codeAt blaws_eqPairS [1, 1, 0, 1, 0, 0]))) (mkPiece 35 plaws_eqPairS_L0 (glaws_eqPairS_L0 N N)) :=
  piece_loop hE hP (hct35 N) (AllOK.of (F := ilaws_eqPairS N) (l := []) (by kernel_rfl) .nil) (fun n {_} => glaws_eqPairS_L0 N n) (fun _ _ => by unfold glaws_eqPairS_L0; rw [laws_eqPairS_L0.zero]) (fun n {_} v K => elaws_eqPairS_L0 N n v K) N
theorem oqlaws_eqPairS_L0 (N : Nat) : PieceOK gd P (ilaws_eqPairS N) (.block 0 (.loop (codeAt blaws_eqPairS [1, 1, 0, 1, 0, 0]))) (qlaws_eqPairS_L0 N) := (olaws_eqPairS_L0 N)
noncomputable def plaws_eqPairS : Pt := ⟨[(.i (.sl (.pair (.int .i64) (.pair (.int .i64) .unit)))), (.i (.sl (.pair (.int .i64) (.pair (.int .i64) .unit))))], []⟩
noncomputable def glaws_eqPairS (N : Nat) {α : Type} (v : plaws_eqPairS.V) (K : HV → List Blk → Option α) : Option α := laws_eqPairS N v.1.1 v.1.2.1 (fun o0_0 => K (.iv .bool o0_0) [])
theorem elaws_eqPairS.b (N : Nat) {α : Type} (v : plaws_eqPairS.V) (K : HV → List Blk → Option α) : runFn env (ct35 N) (ilaws_eqPairS N) Try.f59 (SP.mkL plaws_eqPairS.slots v.1) (BP.mkL plaws_eqPairS.store v.2) K = laws_eqPairS.b N v.1.1 v.1.2.1 (fun o0_0 => K (.iv .bool o0_0) []) := by kernel_rfl
theorem elaws_eqPairS (N : Nat) {α : Type} (v : plaws_eqPairS.V) (K : HV → List Blk → Option α) : runFn env (ct35 N) (ilaws_eqPairS N) Try.f59 (SP.mkL plaws_eqPairS.slots v.1) (BP.mkL plaws_eqPairS.store v.2) K = glaws_eqPairS N v K := (elaws_eqPairS.b N v K).trans (by unfold glaws_eqPairS; rw [laws_eqPairS.eq])
theorem olaws_eqPairS (N : Nat) : CalleeOK gd P 59 (mkCallee false plaws_eqPairS (glaws_eqPairS N)) :=
  callee_ok fun v K h => fn_snd hE hP (hct35 N) Try.func59 (by kernel_rfl) (body := blaws_eqPairS) (by kernel_rfl) (by kernel_rfl) (AllOK.of (F := ilaws_eqPairS N) (l := [((.block 0 (.loop (codeAt blaws_eqPairS [1, 1, 0, 1, 0, 0]))), qlaws_eqPairS_L0 N)]) (by kernel_rfl) (.cons (oqlaws_eqPairS_L0 N) .nil)) (loans := BP.mkL plaws_eqPairS.store v.2) rfl ((elaws_eqPairS N v K).trans h)
noncomputable def ct36 (N : Nat) : CT := (59, (mkCallee false plaws_eqPairS (glaws_eqPairS N))) :: ct35 N
theorem hct36 (N : Nat) : CTOK gd P (ct36 N) := .cons (olaws_eqPairS N) (hct35 N)

noncomputable def ilaws_eqBox (N : Nat) : Fi := { loans := 0, owns := false, results := [.tmp 4], rtys := [4], blks := [], regs := [], masks := [] }
noncomputable def blaws_eqBox : Code := match Try.f29.body with | some c => c | none => .skip
noncomputable def plaws_eqBox : Pt := ⟨[(.i (.pair (.sl (.pair (.int .i64) (.pair (.int .i64) .unit))) .unit)), (.i (.pair (.sl (.pair (.int .i64) (.pair (.int .i64) .unit))) .unit))], []⟩
noncomputable def glaws_eqBox (N : Nat) {α : Type} (v : plaws_eqBox.V) (K : HV → List Blk → Option α) : Option α := laws_eqBox N v.1.1 v.1.2.1 (fun o0_0 => K (.iv .bool o0_0) [])
theorem elaws_eqBox.b (N : Nat) {α : Type} (v : plaws_eqBox.V) (K : HV → List Blk → Option α) : runFn env (ct36 N) (ilaws_eqBox N) Try.f29 (SP.mkL plaws_eqBox.slots v.1) (BP.mkL plaws_eqBox.store v.2) K = laws_eqBox.b N v.1.1 v.1.2.1 (fun o0_0 => K (.iv .bool o0_0) []) := by kernel_rfl
theorem elaws_eqBox (N : Nat) {α : Type} (v : plaws_eqBox.V) (K : HV → List Blk → Option α) : runFn env (ct36 N) (ilaws_eqBox N) Try.f29 (SP.mkL plaws_eqBox.slots v.1) (BP.mkL plaws_eqBox.store v.2) K = glaws_eqBox N v K := (elaws_eqBox.b N v K).trans (by unfold glaws_eqBox; rw [laws_eqBox.eq])
theorem olaws_eqBox (N : Nat) : CalleeOK gd P 29 (mkCallee false plaws_eqBox (glaws_eqBox N)) :=
  callee_ok fun v K h => fn_snd hE hP (hct36 N) Try.func29 (by kernel_rfl) (body := blaws_eqBox) (by kernel_rfl) (by kernel_rfl) (AllOK.of (F := ilaws_eqBox N) (l := []) (by kernel_rfl) .nil) (loans := BP.mkL plaws_eqBox.store v.2) rfl ((elaws_eqBox N v K).trans h)
noncomputable def ct37 (N : Nat) : CT := (29, (mkCallee false plaws_eqBox (glaws_eqBox N))) :: ct36 N
theorem hct37 (N : Nat) : CTOK gd P (ct37 N) := .cons (olaws_eqBox N) (hct36 N)

noncomputable def plaws_markPairS_L0 : Pt := ⟨[(.o 0), (.i (.int .i64)), .u, .u, .u, (.i (.int .i64)), .u, .u, .u, .u, .u, .u, .u, .u, .u, .u, .u, .u, .u, .u, .u, .u, .u, .u, .u, .u, .u], [(.arr 24 (.pair (.int .i64) (.pair (.int .i64) .unit)) false)]⟩
noncomputable def glaws_markPairS_L0 (N n : Nat) {α : Type} (v : plaws_markPairS_L0.V) (K : Out → Option α) : Option α := laws_markPairS_L0 N n v.1.2.1 v.1.2.2.2.2.2.1 v.2.1 (fun o0_0 o0_1 => K (.normal ⟨[.undef, (.iv (.int .i64) o0_0), .undef, .undef, .undef, .undef, .undef, .undef, .undef, .undef, .undef, .undef, .undef, .undef, .undef, .undef, .undef, .undef, .undef, .undef, .undef, .undef, .undef, .undef, .undef, .undef, .undef], [(.arr 24 (.pair (.int .i64) (.pair (.int .i64) .unit)) o0_1 false)]⟩))
noncomputable def qlaws_markPairS_L0 (N : Nat) : Piece := (mkPiece 35 plaws_markPairS_L0 (glaws_markPairS_L0 N N))
noncomputable def ilaws_markPairS (N : Nat) : Fi := { loans := 1, owns := false, results := [.tmp 4], rtys := [3], blks := [(0, qlaws_markPairS_L0 N)], regs := [], masks := [(0, 2)] }
noncomputable def blaws_markPairS : Code := match Try.f72.body with | some c => c | none => .skip
theorem elaws_markPairS_L0.b (N n : Nat) {α : Type} (v : plaws_markPairS_L0.V) (K : Out → Option α) : runRound env (ct37 N) (ilaws_markPairS N) 35 (mkPiece 35 plaws_markPairS_L0 (glaws_markPairS_L0 N n)).run (.block 0 (.loop (codeAt blaws_markPairS [1, 0, 1, 0, 0]))) (plaws_markPairS_L0.mk' v) K = laws_markPairS_L0r N (fun y0 y1 y2 => laws_markPairS_L0 N n y0 y1 y2 (fun o0_0 o0_1 => K (.normal ⟨[.undef, (.iv (.int .i64) o0_0), .undef, .undef, .undef, .undef, .undef, .undef, .undef, .undef, .undef, .undef, .undef, .undef, .undef, .undef, .undef, .undef, .undef, .undef, .undef, .undef, .undef, .undef, .undef, .undef, .undef], [(.arr 24 (.pair (.int .i64) (.pair (.int .i64) .unit)) o0_1 false)]⟩))) (fun o0_0 o0_1 => K (.normal ⟨[.undef, (.iv (.int .i64) o0_0), .undef, .undef, .undef, .undef, .undef, .undef, .undef, .undef, .undef, .undef, .undef, .undef, .undef, .undef, .undef, .undef, .undef, .undef, .undef, .undef, .undef, .undef, .undef, .undef, .undef], [(.arr 24 (.pair (.int .i64) (.pair (.int .i64) .unit)) o0_1 false)]⟩)) v.1.2.1 v.1.2.2.2.2.2.1 v.2.1 := by kernel_rfl
theorem elaws_markPairS_L0 (N n : Nat) {α : Type} (v : plaws_markPairS_L0.V) (K : Out → Option α) : runRound env (ct37 N) (ilaws_markPairS N) 35 (mkPiece 35 plaws_markPairS_L0 (glaws_markPairS_L0 N n)).run (.block 0 (.loop (codeAt blaws_markPairS [1, 0, 1, 0, 0]))) (plaws_markPairS_L0.mk' v) K = glaws_markPairS_L0 N (n + 1) v K := (elaws_markPairS_L0.b N n v K).trans (by unfold glaws_markPairS_L0; rw [laws_markPairS_L0.succ])
theorem olaws_markPairS_L0 (N : Nat) : PieceOK gd P (ilaws_markPairS N) (.block 0 (.loop (codeAt blaws_markPairS [1, 0, 1, 0, 0]))) (mkPiece 35 plaws_markPairS_L0 (glaws_markPairS_L0 N N)) :=
  piece_loop hE hP (hct37 N) (AllOK.of (F := ilaws_markPairS N) (l := []) (by kernel_rfl) .nil) (fun n {_} => glaws_markPairS_L0 N n) (fun _ _ => by unfold glaws_markPairS_L0; rw [laws_markPairS_L0.zero]) (fun n {_} v K => elaws_markPairS_L0 N n v K) N
theorem oqlaws_markPairS_L0 (N : Nat) : PieceOK gd P (ilaws_markPairS N) (.block 0 (.loop (codeAt blaws_markPairS [1, 0, 1, 0, 0]))) (qlaws_markPairS_L0 N) := (olaws_markPairS_L0 N)
noncomputable def plaws_markPairS : Pt := ⟨[(.o 0), (.i (.int .i64))], [(.arr 24 (.pair (.int .i64) (.pair (.int .i64) .unit)) false)]⟩
noncomputable def glaws_markPairS (N : Nat) {α : Type} (v : plaws_markPairS.V) (K : HV → List Blk → Option α) : Option α := laws_markPairS N v.1.2.1 v.2.1 (fun o0_0 o0_1 => K (.iv (.int .i64) o0_0) [(.arr 24 (.pair (.int .i64) (.pair (.int .i64) .unit)) o0_1 false)])
theorem elaws_markPairS.b (N : Nat) {α : Type} (v : plaws_markPairS.V) (K : HV → List Blk → Option α) : runFn env (ct37 N) (ilaws_markPairS N) Try.f72 (SP.mkL plaws_markPairS.slots v.1) (BP.mkL plaws_markPairS.store v.2) K = laws_markPairS.b N v.1.2.1 v.2.1 (fun o0_0 o0_1 => K (.iv (.int .i64) o0_0) [(.arr 24 (.pair (.int .i64) (.pair (.int .i64) .unit)) o0_1 false)]) := by kernel_rfl
theorem elaws_markPairS (N : Nat) {α : Type} (v : plaws_markPairS.V) (K : HV → List Blk → Option α) : runFn env (ct37 N) (ilaws_markPairS N) Try.f72 (SP.mkL plaws_markPairS.slots v.1) (BP.mkL plaws_markPairS.store v.2) K = glaws_markPairS N v K := (elaws_markPairS.b N v K).trans (by unfold glaws_markPairS; rw [laws_markPairS.eq])
theorem olaws_markPairS (N : Nat) : CalleeOK gd P 72 (mkCallee true plaws_markPairS (glaws_markPairS N)) :=
  callee_ok fun v K h => fn_snd hE hP (hct37 N) Try.func72 (by kernel_rfl) (body := blaws_markPairS) (by kernel_rfl) (by kernel_rfl) (AllOK.of (F := ilaws_markPairS N) (l := [((.block 0 (.loop (codeAt blaws_markPairS [1, 0, 1, 0, 0]))), qlaws_markPairS_L0 N)]) (by kernel_rfl) (.cons (oqlaws_markPairS_L0 N) .nil)) (loans := BP.mkL plaws_markPairS.store v.2) rfl ((elaws_markPairS N v K).trans h)
noncomputable def ct38 (N : Nat) : CT := (72, (mkCallee true plaws_markPairS (glaws_markPairS N))) :: ct37 N
theorem hct38 (N : Nat) : CTOK gd P (ct38 N) := .cons (olaws_markPairS N) (hct37 N)

noncomputable def ilaws_markBox (N : Nat) : Fi := { loans := 1, owns := false, results := [.tmp 4], rtys := [3], blks := [], regs := [], masks := [] }
noncomputable def blaws_markBox : Code := match Try.f41.body with | some c => c | none => .skip
noncomputable def plaws_markBox : Pt := ⟨[(.a [(.o 0)]), (.i (.int .i64))], [(.arr 24 (.pair (.int .i64) (.pair (.int .i64) .unit)) false)]⟩
noncomputable def glaws_markBox (N : Nat) {α : Type} (v : plaws_markBox.V) (K : HV → List Blk → Option α) : Option α := laws_markBox N v.1.2.1 v.2.1 (fun o0_0 o0_1 => K (.iv (.int .i64) o0_0) [(.arr 24 (.pair (.int .i64) (.pair (.int .i64) .unit)) o0_1 false)])
theorem elaws_markBox.b (N : Nat) {α : Type} (v : plaws_markBox.V) (K : HV → List Blk → Option α) : runFn env (ct38 N) (ilaws_markBox N) Try.f41 (SP.mkL plaws_markBox.slots v.1) (BP.mkL plaws_markBox.store v.2) K = laws_markBox.b N v.1.2.1 v.2.1 (fun o0_0 o0_1 => K (.iv (.int .i64) o0_0) [(.arr 24 (.pair (.int .i64) (.pair (.int .i64) .unit)) o0_1 false)]) := by kernel_rfl
theorem elaws_markBox (N : Nat) {α : Type} (v : plaws_markBox.V) (K : HV → List Blk → Option α) : runFn env (ct38 N) (ilaws_markBox N) Try.f41 (SP.mkL plaws_markBox.slots v.1) (BP.mkL plaws_markBox.store v.2) K = glaws_markBox N v K := (elaws_markBox.b N v K).trans (by unfold glaws_markBox; rw [laws_markBox.eq])
theorem olaws_markBox (N : Nat) : CalleeOK gd P 41 (mkCallee true plaws_markBox (glaws_markBox N)) :=
  callee_ok fun v K h => fn_snd hE hP (hct38 N) Try.func41 (by kernel_rfl) (body := blaws_markBox) (by kernel_rfl) (by kernel_rfl) (AllOK.of (F := ilaws_markBox N) (l := []) (by kernel_rfl) .nil) (loans := BP.mkL plaws_markBox.store v.2) rfl ((elaws_markBox N v K).trans h)
noncomputable def ct39 (N : Nat) : CT := (41, (mkCallee true plaws_markBox (glaws_markBox N))) :: ct38 N
theorem hct39 (N : Nat) : CTOK gd P (ct39 N) := .cons (olaws_markBox N) (hct38 N)

noncomputable def plaws_heldPairS_L0 : Pt := ⟨[(.i (.sl (.pair (.int .i64) (.pair (.int .i64) .unit)))), (.i (.int .i64)), .u, .u, .u, (.i (.int .i64)), .u, .u, .u, .u, .u, .u, .u, .u, .u, .u, .u, .u, .u, .u, .u, .u, .u, .u, .u, .u, .u, .u, .u, .u, .u], []⟩
noncomputable def glaws_heldPairS_L0 (N n : Nat) {α : Type} (v : plaws_heldPairS_L0.V) (K : Out → Option α) : Option α := laws_heldPairS_L0 N n v.1.1 v.1.2.1 v.1.2.2.2.2.2.1 (fun o0_0 => K (.ret (.iv (.int .i64) o0_0) [])) (fun o1_0 => K (.normal ⟨[.undef, (.iv (.int .i64) o1_0), .undef, .undef, .undef, .undef, .undef, .undef, .undef, .undef, .undef, .undef, .undef, .undef, .undef, .undef, .undef, .undef, .undef, .undef, .undef, .undef, .undef, .undef, .undef, .undef, .undef, .undef, .undef, .undef, .undef], []⟩))
noncomputable def qlaws_heldPairS_L0 (N : Nat) : Piece := (mkPiece 35 plaws_heldPairS_L0 (glaws_heldPairS_L0 N N))
noncomputable def ilaws_heldPairS (N : Nat) : Fi := { loans := 0, owns := false, results := [.tmp 4], rtys := [3], blks := [(0, qlaws_heldPairS_L0 N)], regs := [], masks := [(0, 2)] }
noncomputable def blaws_heldPairS : Code := match Try.f73.body with | some c => c | none => .skip
theorem elaws_heldPairS_L0.b (N n : Nat) {α : Type} (v : plaws_heldPairS_L0.V) (K : Out → Option α) : runRound env (ct39 N) (ilaws_heldPairS N) 35 (mkPiece 35 plaws_heldPairS_L0 (glaws_heldPairS_L0 N n)).run (.block 0 (.loop (codeAt blaws_heldPairS [1, 0, 1, 0, 0]))) (plaws_heldPairS_L0.mk' v) K = laws_heldPairS_L0r N (fun y0 y1 y2 => laws_heldPairS_L0 N n y0 y1 y2 (fun o0_0 => K (.ret (.iv (.int .i64) o0_0) [])) (fun o1_0 => K (.normal ⟨[.undef, (.iv (.int .i64) o1_0), .undef, .undef, .undef, .undef, .undef, .undef, .undef, .undef, .undef, .undef, .undef, .undef, .undef, .undef, .undef, .undef, .undef, .undef, .undef, .undef, .undef, .undef, .undef, .undef, .undef, .undef, .undef, .undef, .undef], []⟩))) (fun o0_0 => K (.ret (.iv (.int .i64) o0_0) [])) (fun o1_0 => K (.normal ⟨[.undef, (.iv (.int .i64) o1_0), .undef, .undef, .undef, .undef, .undef, .undef, .undef, .undef, .undef, .undef, .undef, .undef, .undef, .undef, .undef, .undef, .undef, .undef, .undef, .undef, .undef, .undef, .undef, .undef, .undef, .undef, .undef, .undef, .undef], []⟩)) v.1.1 v.1.2.1 v.1.2.2.2.2.2.1 := by kernel_rfl
theorem elaws_heldPairS_L0 (N n : Nat) {α : Type} (v : plaws_heldPairS_L0.V) (K : Out → Option α) : runRound env (ct39 N) (ilaws_heldPairS N) 35 (mkPiece 35 plaws_heldPairS_L0 (glaws_heldPairS_L0 N n)).run (.block 0 (.loop (codeAt blaws_heldPairS [1, 0, 1, 0, 0]))) (plaws_heldPairS_L0.mk' v) K = glaws_heldPairS_L0 N (n + 1) v K := (elaws_heldPairS_L0.b N n v K).trans (by unfold glaws_heldPairS_L0; rw [laws_heldPairS_L0.succ])
theorem olaws_heldPairS_L0 (N : Nat) : PieceOK gd P (ilaws_heldPairS N) (.block 0 (.loop (codeAt blaws_heldPairS [1, 0, 1, 0, 0]))) (mkPiece 35 plaws_heldPairS_L0 (glaws_heldPairS_L0 N N)) :=
  piece_loop hE hP (hct39 N) (AllOK.of (F := ilaws_heldPairS N) (l := []) (by kernel_rfl) .nil) (fun n {_} => glaws_heldPairS_L0 N n) (fun _ _ => by unfold glaws_heldPairS_L0; rw [laws_heldPairS_L0.zero]) (fun n {_} v K => elaws_heldPairS_L0 N n v K) N
theorem oqlaws_heldPairS_L0 (N : Nat) : PieceOK gd P (ilaws_heldPairS N) (.block 0 (.loop (codeAt blaws_heldPairS [1, 0, 1, 0, 0]))) (qlaws_heldPairS_L0 N) := (olaws_heldPairS_L0 N)
noncomputable def plaws_heldPairS : Pt := ⟨[(.i (.sl (.pair (.int .i64) (.pair (.int .i64) .unit)))), (.i (.int .i64))], []⟩
noncomputable def glaws_heldPairS (N : Nat) {α : Type} (v : plaws_heldPairS.V) (K : HV → List Blk → Option α) : Option α := laws_heldPairS N v.1.1 v.1.2.1 (fun o0_0 => K (.iv (.int .i64) o0_0) [])
theorem elaws_heldPairS.b (N : Nat) {α : Type} (v : plaws_heldPairS.V) (K : HV → List Blk → Option α) : runFn env (ct39 N) (ilaws_heldPairS N) Try.f73 (SP.mkL plaws_heldPairS.slots v.1) (BP.mkL plaws_heldPairS.store v.2) K = laws_heldPairS.b N v.1.1 v.1.2.1 (fun o0_0 => K (.iv (.int .i64) o0_0) []) := by kernel_rfl
theorem elaws_heldPairS (N : Nat) {α : Type} (v : plaws_heldPairS.V) (K : HV → List Blk → Option α) : runFn env (ct39 N) (ilaws_heldPairS N) Try.f73 (SP.mkL plaws_heldPairS.slots v.1) (BP.mkL plaws_heldPairS.store v.2) K = glaws_heldPairS N v K := (elaws_heldPairS.b N v K).trans (by unfold glaws_heldPairS; rw [laws_heldPairS.eq])
theorem olaws_heldPairS (N : Nat) : CalleeOK gd P 73 (mkCallee false plaws_heldPairS (glaws_heldPairS N)) :=
  callee_ok fun v K h => fn_snd hE hP (hct39 N) Try.func73 (by kernel_rfl) (body := blaws_heldPairS) (by kernel_rfl) (by kernel_rfl) (AllOK.of (F := ilaws_heldPairS N) (l := [((.block 0 (.loop (codeAt blaws_heldPairS [1, 0, 1, 0, 0]))), qlaws_heldPairS_L0 N)]) (by kernel_rfl) (.cons (oqlaws_heldPairS_L0 N) .nil)) (loans := BP.mkL plaws_heldPairS.store v.2) rfl ((elaws_heldPairS N v K).trans h)
noncomputable def ct40 (N : Nat) : CT := (73, (mkCallee false plaws_heldPairS (glaws_heldPairS N))) :: ct39 N
theorem hct40 (N : Nat) : CTOK gd P (ct40 N) := .cons (olaws_heldPairS N) (hct39 N)

noncomputable def ilaws_heldBox (N : Nat) : Fi := { loans := 0, owns := false, results := [.tmp 4], rtys := [3], blks := [], regs := [], masks := [] }
noncomputable def blaws_heldBox : Code := match Try.f42.body with | some c => c | none => .skip
noncomputable def plaws_heldBox : Pt := ⟨[(.i (.pair (.sl (.pair (.int .i64) (.pair (.int .i64) .unit))) .unit)), (.i (.int .i64))], []⟩
noncomputable def glaws_heldBox (N : Nat) {α : Type} (v : plaws_heldBox.V) (K : HV → List Blk → Option α) : Option α := laws_heldBox N v.1.1 v.1.2.1 (fun o0_0 => K (.iv (.int .i64) o0_0) [])
theorem elaws_heldBox.b (N : Nat) {α : Type} (v : plaws_heldBox.V) (K : HV → List Blk → Option α) : runFn env (ct40 N) (ilaws_heldBox N) Try.f42 (SP.mkL plaws_heldBox.slots v.1) (BP.mkL plaws_heldBox.store v.2) K = laws_heldBox.b N v.1.1 v.1.2.1 (fun o0_0 => K (.iv (.int .i64) o0_0) []) := by kernel_rfl
theorem elaws_heldBox (N : Nat) {α : Type} (v : plaws_heldBox.V) (K : HV → List Blk → Option α) : runFn env (ct40 N) (ilaws_heldBox N) Try.f42 (SP.mkL plaws_heldBox.slots v.1) (BP.mkL plaws_heldBox.store v.2) K = glaws_heldBox N v K := (elaws_heldBox.b N v K).trans (by unfold glaws_heldBox; rw [laws_heldBox.eq])
theorem olaws_heldBox (N : Nat) : CalleeOK gd P 42 (mkCallee false plaws_heldBox (glaws_heldBox N)) :=
  callee_ok fun v K h => fn_snd hE hP (hct40 N) Try.func42 (by kernel_rfl) (body := blaws_heldBox) (by kernel_rfl) (by kernel_rfl) (AllOK.of (F := ilaws_heldBox N) (l := []) (by kernel_rfl) .nil) (loans := BP.mkL plaws_heldBox.store v.2) rfl ((elaws_heldBox N v K).trans h)
noncomputable def ct41 (N : Nat) : CT := (42, (mkCallee false plaws_heldBox (glaws_heldBox N))) :: ct40 N
theorem hct41 (N : Nat) : CTOK gd P (ct41 N) := .cons (olaws_heldBox N) (hct40 N)

noncomputable def ilaws_FnExactBoxCut (N : Nat) : Fi := { loans := 0, owns := false, results := [.tmp 8], rtys := [4], blks := [], regs := [], masks := [] }
noncomputable def blaws_FnExactBoxCut : Code := match Try.f13.body with | some c => c | none => .skip
noncomputable def plaws_FnExactBoxCut : Pt := ⟨[(.i (.int .i64)), (.i (.pair (.sl (.pair (.int .i64) (.pair (.int .i64) .unit))) .unit)), (.i (.int .i64)), (.i (.pair (.int .i64) (.pair (.int .i64) .unit)))], []⟩
noncomputable def glaws_FnExactBoxCut (N : Nat) {α : Type} (v : plaws_FnExactBoxCut.V) (K : HV → List Blk → Option α) : Option α := laws_FnExactBoxCut N v.1.1 v.1.2.1 v.1.2.2.1 v.1.2.2.2.1 (fun o0_0 => K (.iv .bool o0_0) [])
theorem elaws_FnExactBoxCut.b (N : Nat) {α : Type} (v : plaws_FnExactBoxCut.V) (K : HV → List Blk → Option α) : runFn env (ct41 N) (ilaws_FnExactBoxCut N) Try.f13 (SP.mkL plaws_FnExactBoxCut.slots v.1) (BP.mkL plaws_FnExactBoxCut.store v.2) K = laws_FnExactBoxCut.b N v.1.1 v.1.2.1 v.1.2.2.1 v.1.2.2.2.1 (fun o0_0 => K (.iv .bool o0_0) []) := by kernel_rfl
theorem elaws_FnExactBoxCut (N : Nat) {α : Type} (v : plaws_FnExactBoxCut.V) (K : HV → List Blk → Option α) : runFn env (ct41 N) (ilaws_FnExactBoxCut N) Try.f13 (SP.mkL plaws_FnExactBoxCut.slots v.1) (BP.mkL plaws_FnExactBoxCut.store v.2) K = glaws_FnExactBoxCut N v K := (elaws_FnExactBoxCut.b N v K).trans (by unfold glaws_FnExactBoxCut; rw [laws_FnExactBoxCut.eq])
theorem olaws_FnExactBoxCut (N : Nat) : CalleeOK gd P 13 (mkCallee false plaws_FnExactBoxCut (glaws_FnExactBoxCut N)) :=
  callee_ok fun v K h => fn_snd hE hP (hct41 N) Try.func13 (by kernel_rfl) (body := blaws_FnExactBoxCut) (by kernel_rfl) (by kernel_rfl) (AllOK.of (F := ilaws_FnExactBoxCut N) (l := []) (by kernel_rfl) .nil) (loans := BP.mkL plaws_FnExactBoxCut.store v.2) rfl ((elaws_FnExactBoxCut N v K).trans h)
noncomputable def ct42 (N : Nat) : CT := (13, (mkCallee false plaws_FnExactBoxCut (glaws_FnExactBoxCut N))) :: ct41 N
theorem hct42 (N : Nat) : CTOK gd P (ct42 N) := .cons (olaws_FnExactBoxCut N) (hct41 N)

end
end
end Go.Proofs.YtaelbfbplamahaaAm
