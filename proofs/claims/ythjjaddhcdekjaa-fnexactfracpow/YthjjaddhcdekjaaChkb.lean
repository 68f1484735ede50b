/-
  The functions are what the program computes. Printed by amp.py.
-/
import Derived.Test.YthjjaddhcdekjaaChk
namespace Go.Proofs.YthjjaddhcdekjaaAm
open Go
noncomputable section
set_option linter.unusedVariables false
set_option linter.unusedSimpArgs false
section
variable {gd : Gd}
theorem eimpl_natMul_L0.b (N n : Nat) {α : Type} (v : pimpl_natMul_L0.V) (K : Out → Option α) : runRound env (ct40 N) (iimpl_natMul N) 5772436046852 (mkPiece 5772436046852 pimpl_natMul_L0 (gimpl_natMul_L0 N n)).run (.block 0 (.loop (codeAt bimpl_natMul [1, 1, 0, 1, 0, 0]))) (pimpl_natMul_L0.mk' v) K = impl_natMul_L0r N (fun y0 y1 y2 y3 y4 => impl_natMul_L0 N n y0 y1 y2 y3 y4 (fun o0_0 => K (.normal ⟨[.undef, .undef, .undef, .undef, .undef, (.own 0), .undef, .undef, .undef, .undef, .undef, .undef, .undef, .undef, .undef, .undef, .undef, .undef, .undef, .undef, .undef, .undef, .undef, .undef, .undef, .undef, .undef, .undef, .undef, .undef, .undef, .undef, .undef, .undef, .undef, .undef, .undef, .undef, .undef, .undef, .undef, .undef, .undef, .undef, .undef, .undef, .undef, .undef, .undef, .undef, .undef, .undef, .undef, .undef, .undef, .undef, .undef, .undef, .undef, .undef, .undef, .undef, .undef, .undef, .undef, .undef, .undef, .undef], [(.arr 3 (.int .i64) o0_0 false)]⟩))) (fun o0_0 => K (.normal ⟨[.undef, .undef, .undef, .undef, .undef, (.own 0), .undef, .undef, .undef, .undef, .undef, .undef, .undef, .undef, .undef, .undef, .undef, .undef, .undef, .undef, .undef, .undef, .undef, .undef, .undef, .undef, .undef, .undef, .undef, .undef, .undef, .undef, .undef, .undef, .undef, .undef, .undef, .undef, .undef, .undef, .undef, .undef, .undef, .undef, .undef, .undef, .undef, .undef, .undef, .undef, .undef, .undef, .undef, .undef, .undef, .undef, .undef, .undef, .undef, .undef, .undef, .undef, .undef, .undef, .undef, .undef, .undef, .undef], [(.arr 3 (.int .i64) o0_0 false)]⟩)) v.1.2.1 v.1.2.2.2.2.2.2.2.2.2.2.2.2.2.2.2.2.2.2.2.1 v.1.2.2.2.2.2.2.2.2.2.2.2.2.2.2.2.2.2.2.2.2.1 v.1.2.2.2.2.2.2.2.2.2.2.2.2.2.2.2.2.2.2.2.2.2.1 v.2.1 := by kernel_rfl
theorem eimpl_natMul_L0 (N n : Nat) {α : Type} (v : pimpl_natMul_L0.V) (K : Out → Option α) : runRound env (ct40 N) (iimpl_natMul N) 5772436046852 (mkPiece 5772436046852 pimpl_natMul_L0 (gimpl_natMul_L0 N n)).run (.block 0 (.loop (codeAt bimpl_natMul [1, 1, 0, 1, 0, 0]))) (pimpl_natMul_L0.mk' v) K = gimpl_natMul_L0 N (n + 1) v K := (eimpl_natMul_L0.b N n v K).trans (by unfold gimpl_natMul_L0; rw [impl_natMul_L0.succ])
theorem oimpl_natMul_L0 (N : Nat) : PieceOK gd P (iimpl_natMul N) (.block 0 (.loop (codeAt bimpl_natMul [1, 1, 0, 1, 0, 0]))) (mkPiece 5772436046852 pimpl_natMul_L0 (gimpl_natMul_L0 N N)) :=
  piece_loop hE hP (hct40 N) (AllOK.of (F := iimpl_natMul N) (l := [((.block 2 (.loop (codeAt bimpl_natMul [1, 1, 0, 1, 0, 0, 1, 1, 0, 0, 1, 1, 0, 1, 0, 0]))), qimpl_natMul_L2 N)]) (by kernel_rfl) (.cons (oqimpl_natMul_L2 N) .nil)) (fun n {_} => gimpl_natMul_L0 N n) (fun _ _ => by unfold gimpl_natMul_L0; rw [impl_natMul_L0.zero]) (fun n {_} v K => eimpl_natMul_L0 N n v K) N
theorem oqimpl_natMul_L0 (N : Nat) : PieceOK gd P (iimpl_natMul N) (.block 0 (.loop (codeAt bimpl_natMul [1, 1, 0, 1, 0, 0]))) (qimpl_natMul_L0 N) := (oimpl_natMul_L0 N)
noncomputable def pimpl_natMul : Pt := ⟨[(.i (.sl (.int .i64))), (.i (.sl (.int .i64)))], []⟩
noncomputable def gimpl_natMul (N : Nat) {α : Type} (v : pimpl_natMul.V) (K : HV → List Blk → Option α) : Option α := impl_natMul N v.1.1 v.1.2.1 (fun o0_0 => K (.iv (.sl (.int .i64)) o0_0) [])
theorem eimpl_natMul.b (N : Nat) {α : Type} (v : pimpl_natMul.V) (K : HV → List Blk → Option α) : runFn env (ct40 N) (iimpl_natMul N) Try.f90 (SP.mkL pimpl_natMul.slots v.1) (BP.mkL pimpl_natMul.store v.2) K = impl_natMul.b N v.1.1 v.1.2.1 (fun o0_0 => K (.iv (.sl (.int .i64)) o0_0) []) := by kernel_rfl
theorem eimpl_natMul (N : Nat) {α : Type} (v : pimpl_natMul.V) (K : HV → List Blk → Option α) : runFn env (ct40 N) (iimpl_natMul N) Try.f90 (SP.mkL pimpl_natMul.slots v.1) (BP.mkL pimpl_natMul.store v.2) K = gimpl_natMul N v K := (eimpl_natMul.b N v K).trans (by unfold gimpl_natMul; rw [impl_natMul.eq])
theorem oimpl_natMul (N : Nat) : CalleeOK gd P 90 (mkCallee false pimpl_natMul (gimpl_natMul N)) :=
  callee_ok fun v K h => fn_snd hE hP (hct40 N) Try.func90 (by kernel_rfl) (body := bimpl_natMul) (by kernel_rfl) (by kernel_rfl) (AllOK.of (F := iimpl_natMul N) (l := [((.block 0 (.loop (codeAt bimpl_natMul [1, 1, 0, 1, 0, 0]))), qimpl_natMul_L0 N)]) (by kernel_rfl) (.cons (oqimpl_natMul_L0 N) .nil)) (loans := BP.mkL pimpl_natMul.store v.2) rfl ((eimpl_natMul N v K).trans h)
noncomputable def ct41 (N : Nat) : CT := (90, (mkCallee false pimpl_natMul (gimpl_natMul N))) :: ct40 N
theorem hct41 (N : Nat) : CTOK gd P (ct41 N) := .cons (oimpl_natMul N) (hct40 N)

noncomputable def pimpl_natPow_L0 : Pt := ⟨[(.i (.sl (.int .i64))), .u, .u, .u, .u, (.i (.sl (.int .i64))), .u, (.i (.int .i64)), (.i (.int .i64)), .u, .u, .u, .u, .u, .u, .u, .u, .u], []⟩
noncomputable def gimpl_natPow_L0 (N n : Nat) {α : Type} (v : pimpl_natPow_L0.V) (K : Out → Option α) : Option α := impl_natPow_L0 N n v.1.1 v.1.2.2.2.2.2.1 v.1.2.2.2.2.2.2.2.1 v.1.2.2.2.2.2.2.2.2.1 (fun o0_0 => K (.normal ⟨[.undef, .undef, .undef, .undef, .undef, (.iv (.sl (.int .i64)) o0_0), .undef, .undef, .undef, .undef, .undef, .undef, .undef, .undef, .undef, .undef, .undef, .undef], []⟩))
noncomputable def qimpl_natPow_L0 (N : Nat) : Piece := (mkPiece 84993 pimpl_natPow_L0 (gimpl_natPow_L0 N N))
noncomputable def iimpl_natPow (N : Nat) : Fi := { loans := 0, owns := true, results := [.tmp 4], rtys := [22], blks := [(0, qimpl_natPow_L0 N)], regs := [], masks := [(0, 1024)] }
noncomputable def bimpl_natPow : Code := match Try.f103.body with | some c => c | none => .skip
theorem eimpl_natPow_L0.b (N n : Nat) {α : Type} (v : pimpl_natPow_L0.V) (K : Out → Option α) : runRound env (ct41 N) (iimpl_natPow N) 84993 (mkPiece 84993 pimpl_natPow_L0 (gimpl_natPow_L0 N n)).run (.block 0 (.loop (codeAt bimpl_natPow [1, 1, 0, 1, 0, 0]))) (pimpl_natPow_L0.mk' v) K = impl_natPow_L0r N (fun y0 y1 y2 y3 => impl_natPow_L0 N n y0 y1 y2 y3 (fun o0_0 => K (.normal ⟨[.undef, .undef, .undef, .undef, .undef, (.iv (.sl (.int .i64)) o0_0), .undef, .undef, .undef, .undef, .undef, .undef, .undef, .undef, .undef, .undef, .undef, .undef], []⟩))) (fun o0_0 => K (.normal ⟨[.undef, .undef, .undef, .undef, .undef, (.iv (.sl (.int .i64)) o0_0), .undef, .undef, .undef, .undef, .undef, .undef, .undef, .undef, .undef, .undef, .undef, .undef], []⟩)) v.1.1 v.1.2.2.2.2.2.1 v.1.2.2.2.2.2.2.2.1 v.1.2.2.2.2.2.2.2.2.1 := by kernel_rfl
theorem eimpl_natPow_L0 (N n : Nat) {α : Type} (v : pimpl_natPow_L0.V) (K : Out → Option α) : runRound env (ct41 N) (iimpl_natPow N) 84993 (mkPiece 84993 pimpl_natPow_L0 (gimpl_natPow_L0 N n)).run (.block 0 (.loop (codeAt bimpl_natPow [1, 1, 0, 1, 0, 0]))) (pimpl_natPow_L0.mk' v) K = gimpl_natPow_L0 N (n + 1) v K := (eimpl_natPow_L0.b N n v K).trans (by unfold gimpl_natPow_L0; rw [impl_natPow_L0.succ])
theorem oimpl_natPow_L0 (N : Nat) : PieceOK gd P (iimpl_natPow N) (.block 0 (.loop (codeAt bimpl_natPow [1, 1, 0, 1, 0, 0]))) (mkPiece 84993 pimpl_natPow_L0 (gimpl_natPow_L0 N N)) :=
  piece_loop hE hP (hct41 N) (AllOK.of (F := iimpl_natPow N) (l := []) (by kernel_rfl) .nil) (fun n {_} => gimpl_natPow_L0 N n) (fun _ _ => by unfold gimpl_natPow_L0; rw [impl_natPow_L0.zero]) (fun n {_} v K => eimpl_natPow_L0 N n v K) N
theorem oqimpl_natPow_L0 (N : Nat) : PieceOK gd P (iimpl_natPow N) (.block 0 (.loop (codeAt bimpl_natPow [1, 1, 0, 1, 0, 0]))) (qimpl_natPow_L0 N) := (oimpl_natPow_L0 N)
noncomputable def pimpl_natPow : Pt := ⟨[(.i (.sl (.int .i64))), (.i (.int .i64))], []⟩
noncomputable def gimpl_natPow (N : Nat) {α : Type} (v : pimpl_natPow.V) (K : HV → List Blk → Option α) : Option α := impl_natPow N v.1.1 v.1.2.1 (fun o0_0 => K (.iv (.sl (.int .i64)) o0_0) [])
theorem eimpl_natPow.b (N : Nat) {α : Type} (v : pimpl_natPow.V) (K : HV → List Blk → Option α) : runFn env (ct41 N) (iimpl_natPow N) Try.f103 (SP.mkL pimpl_natPow.slots v.1) (BP.mkL pimpl_natPow.store v.2) K = impl_natPow.b N v.1.1 v.1.2.1 (fun o0_0 => K (.iv (.sl (.int .i64)) o0_0) []) := by kernel_rfl
theorem eimpl_natPow (N : Nat) {α : Type} (v : pimpl_natPow.V) (K : HV → List Blk → Option α) : runFn env (ct41 N) (iimpl_natPow N) Try.f103 (SP.mkL pimpl_natPow.slots v.1) (BP.mkL pimpl_natPow.store v.2) K = gimpl_natPow N v K := (eimpl_natPow.b N v K).trans (by unfold gimpl_natPow; rw [impl_natPow.eq])
theorem oimpl_natPow (N : Nat) : CalleeOK gd P 103 (mkCallee false pimpl_natPow (gimpl_natPow N)) :=
  callee_ok fun v K h => fn_snd hE hP (hct41 N) Try.func103 (by kernel_rfl) (body := bimpl_natPow) (by kernel_rfl) (by kernel_rfl) (AllOK.of (F := iimpl_natPow N) (l := [((.block 0 (.loop (codeAt bimpl_natPow [1, 1, 0, 1, 0, 0]))), qimpl_natPow_L0 N)]) (by kernel_rfl) (.cons (oqimpl_natPow_L0 N) .nil)) (loans := BP.mkL pimpl_natPow.store v.2) rfl ((eimpl_natPow N v K).trans h)
noncomputable def ct42 (N : Nat) : CT := (103, (mkCallee false pimpl_natPow (gimpl_natPow N))) :: ct41 N
theorem hct42 (N : Nat) : CTOK gd P (ct42 N) := .cons (oimpl_natPow N) (hct41 N)

noncomputable def iimpl_Frac_pow (N : Nat) : Fi := { loans := 0, owns := true, results := [.cell 4 27], rtys := [27], blks := [], regs := [], masks := [] }
noncomputable def bimpl_Frac_pow : Code := match Try.f80.body with | some c => c | none => .skip
noncomputable def pimpl_Frac_pow : Pt := ⟨[(.i (.pair .bool (.pair (.sl (.int .i64)) (.pair (.sl (.int .i64)) .unit)))), (.i (.int .i64))], []⟩
noncomputable def gimpl_Frac_pow (N : Nat) {α : Type} (v : pimpl_Frac_pow.V) (K : HV → List Blk → Option α) : Option α := impl_Frac_pow N v.1.1 v.1.2.1 (fun o0_0 => K (.iv (.pair .bool (.pair (.sl (.int .i64)) (.pair (.sl (.int .i64)) .unit))) o0_0) [])
theorem eimpl_Frac_pow.b (N : Nat) {α : Type} (v : pimpl_Frac_pow.V) (K : HV → List Blk → Option α) : runFn env (ct42 N) (iimpl_Frac_pow N) Try.f80 (SP.mkL pimpl_Frac_pow.slots v.1) (BP.mkL pimpl_Frac_pow.store v.2) K = impl_Frac_pow.b N v.1.1 v.1.2.1 (fun o0_0 => K (.iv (.pair .bool (.pair (.sl (.int .i64)) (.pair (.sl (.int .i64)) .unit))) o0_0) []) := by kernel_rfl
theorem eimpl_Frac_pow (N : Nat) {α : Type} (v : pimpl_Frac_pow.V) (K : HV → List Blk → Option α) : runFn env (ct42 N) (iimpl_Frac_pow N) Try.f80 (SP.mkL pimpl_Frac_pow.slots v.1) (BP.mkL pimpl_Frac_pow.store v.2) K = gimpl_Frac_pow N v K := (eimpl_Frac_pow.b N v K).trans (by unfold gimpl_Frac_pow; rw [impl_Frac_pow.eq])
theorem oimpl_Frac_pow (N : Nat) : CalleeOK gd P 80 (mkCallee false pimpl_Frac_pow (gimpl_Frac_pow N)) :=
  callee_ok fun v K h => fn_snd hE hP (hct42 N) Try.func80 (by kernel_rfl) (body := bimpl_Frac_pow) (by kernel_rfl) (by kernel_rfl) (AllOK.of (F := iimpl_Frac_pow N) (l := []) (by kernel_rfl) .nil) (loans := BP.mkL pimpl_Frac_pow.store v.2) rfl ((eimpl_Frac_pow N v K).trans h)
noncomputable def ct43 (N : Nat) : CT := (80, (mkCallee false pimpl_Frac_pow (gimpl_Frac_pow N))) :: ct42 N
theorem hct43 (N : Nat) : CTOK gd P (ct43 N) := .cons (oimpl_Frac_pow N) (hct42 N)

noncomputable def islices_Clip_int_int (N : Nat) : Fi := { loans := 1, owns := true, results := [.tmp 2], rtys := [22], blks := [], regs := [], masks := [] }
noncomputable def bslices_Clip_int_int : Code := match Try.f109.body with | some c => c | none => .skip
noncomputable def pslices_Clip_int_int : Pt := ⟨[(.o 0)], [(.arr 3 (.int .i64) false)]⟩
noncomputable def gslices_Clip_int_int (N : Nat) {α : Type} (v : pslices_Clip_int_int.V) (K : HV → List Blk → Option α) : Option α := slices_Clip_int_int N v.2.1 (fun o0_0 => K (.own 1) [.gone, (.arr 3 (.int .i64) o0_0 false)])
theorem eslices_Clip_int_int.b (N : Nat) {α : Type} (v : pslices_Clip_int_int.V) (K : HV → List Blk → Option α) : runFn env (ct43 N) (islices_Clip_int_int N) Try.f109 (SP.mkL pslices_Clip_int_int.slots v.1) (BP.mkL pslices_Clip_int_int.store v.2) K = slices_Clip_int_int.b N v.2.1 (fun o0_0 => K (.own 1) [.gone, (.arr 3 (.int .i64) o0_0 false)]) := by kernel_rfl
theorem eslices_Clip_int_int (N : Nat) {α : Type} (v : pslices_Clip_int_int.V) (K : HV → List Blk → Option α) : runFn env (ct43 N) (islices_Clip_int_int N) Try.f109 (SP.mkL pslices_Clip_int_int.slots v.1) (BP.mkL pslices_Clip_int_int.store v.2) K = gslices_Clip_int_int N v K := (eslices_Clip_int_int.b N v K).trans (by unfold gslices_Clip_int_int; rw [slices_Clip_int_int.eq])
theorem oslices_Clip_int_int (N : Nat) : CalleeOK gd P 109 (mkCallee true pslices_Clip_int_int (gslices_Clip_int_int N)) :=
  callee_ok fun v K h => fn_snd hE hP (hct43 N) Try.func109 (by kernel_rfl) (body := bslices_Clip_int_int) (by kernel_rfl) (by kernel_rfl) (AllOK.of (F := islices_Clip_int_int N) (l := []) (by kernel_rfl) .nil) (loans := BP.mkL pslices_Clip_int_int.store v.2) rfl ((eslices_Clip_int_int N v K).trans h)
noncomputable def ct44 (N : Nat) : CT := (109, (mkCallee true pslices_Clip_int_int (gslices_Clip_int_int N))) :: ct43 N
theorem hct44 (N : Nat) : CTOK gd P (ct44 N) := .cons (oslices_Clip_int_int N) (hct43 N)

noncomputable def iimpl_clone_int (N : Nat) : Fi := { loans := 0, owns := true, results := [.tmp 2], rtys := [22], blks := [], regs := [], masks := [] }
noncomputable def bimpl_clone_int : Code := match Try.f87.body with | some c => c | none => .skip
noncomputable def pimpl_clone_int : Pt := ⟨[(.i (.sl (.int .i64)))], []⟩
noncomputable def gimpl_clone_int (N : Nat) {α : Type} (v : pimpl_clone_int.V) (K : HV → List Blk → Option α) : Option α := impl_clone_int N v.1.1 (fun o0_0 => K (.own 0) [(.arr 3 (.int .i64) o0_0 false)])
theorem eimpl_clone_int.b (N : Nat) {α : Type} (v : pimpl_clone_int.V) (K : HV → List Blk → Option α) : runFn env (ct44 N) (iimpl_clone_int N) Try.f87 (SP.mkL pimpl_clone_int.slots v.1) (BP.mkL pimpl_clone_int.store v.2) K = impl_clone_int.b N v.1.1 (fun o0_0 => K (.own 0) [(.arr 3 (.int .i64) o0_0 false)]) := by kernel_rfl
theorem eimpl_clone_int (N : Nat) {α : Type} (v : pimpl_clone_int.V) (K : HV → List Blk → Option α) : runFn env (ct44 N) (iimpl_clone_int N) Try.f87 (SP.mkL pimpl_clone_int.slots v.1) (BP.mkL pimpl_clone_int.store v.2) K = gimpl_clone_int N v K := (eimpl_clone_int.b N v K).trans (by unfold gimpl_clone_int; rw [impl_clone_int.eq])
theorem oimpl_clone_int (N : Nat) : CalleeOK gd P 87 (mkCallee false pimpl_clone_int (gimpl_clone_int N)) :=
  callee_ok fun v K h => fn_snd hE hP (hct44 N) Try.func87 (by kernel_rfl) (body := bimpl_clone_int) (by kernel_rfl) (by kernel_rfl) (AllOK.of (F := iimpl_clone_int N) (l := []) (by kernel_rfl) .nil) (loans := BP.mkL pimpl_clone_int.store v.2) rfl ((eimpl_clone_int N v K).trans h)
noncomputable def ct45 (N : Nat) : CT := (87, (mkCallee false pimpl_clone_int (gimpl_clone_int N))) :: ct44 N
theorem hct45 (N : Nat) : CTOK gd P (ct45 N) := .cons (oimpl_clone_int N) (hct44 N)

noncomputable def iimpl_given (N : Nat) : Fi := { loans := 0, owns := true, results := [.cell 2 27, .tmp 3], rtys := [27, 4], blks := [], regs := [], masks := [] }
noncomputable def bimpl_given : Code := match Try.f55.body with | some c => c | none => .skip
noncomputable def pimpl_given : Pt := ⟨[(.i (.pair .bool (.pair (.sl (.int .i64)) (.pair (.sl (.int .i64)) .unit))))], []⟩
noncomputable def gimpl_given (N : Nat) {α : Type} (v : pimpl_given.V) (K : HV → List Blk → Option α) : Option α := impl_given N v.1.1 (fun o0_0 o0_1 o0_2 o0_3 => K (.tuple [(.agg [(.iv .bool o0_0), (.own 0), (.own 1)]), (.iv .bool o0_1)]) [(.arr 3 (.int .i64) o0_2 false), (.arr 3 (.int .i64) o0_3 false)])
theorem eimpl_given.b (N : Nat) {α : Type} (v : pimpl_given.V) (K : HV → List Blk → Option α) : runFn env (ct45 N) (iimpl_given N) Try.f55 (SP.mkL pimpl_given.slots v.1) (BP.mkL pimpl_given.store v.2) K = impl_given.b N v.1.1 (fun o0_0 o0_1 o0_2 o0_3 => K (.tuple [(.agg [(.iv .bool o0_0), (.own 0), (.own 1)]), (.iv .bool o0_1)]) [(.arr 3 (.int .i64) o0_2 false), (.arr 3 (.int .i64) o0_3 false)]) := by kernel_rfl
theorem eimpl_given (N : Nat) {α : Type} (v : pimpl_given.V) (K : HV → List Blk → Option α) : runFn env (ct45 N) (iimpl_given N) Try.f55 (SP.mkL pimpl_given.slots v.1) (BP.mkL pimpl_given.store v.2) K = gimpl_given N v K := (eimpl_given.b N v K).trans (by unfold gimpl_given; rw [impl_given.eq])
theorem oimpl_given (N : Nat) : CalleeOK gd P 55 (mkCallee false pimpl_given (gimpl_given N)) :=
  callee_ok fun v K h => fn_snd hE hP (hct45 N) Try.func55 (by kernel_rfl) (body := bimpl_given) (by kernel_rfl) (by kernel_rfl) (AllOK.of (F := iimpl_given N) (l := []) (by kernel_rfl) .nil) (loans := BP.mkL pimpl_given.store v.2) rfl ((eimpl_given N v K).trans h)
noncomputable def ct46 (N : Nat) : CT := (55, (mkCallee false pimpl_given (gimpl_given N))) :: ct45 N
theorem hct46 (N : Nat) : CTOK gd P (ct46 N) := .cons (oimpl_given N) (hct45 N)

noncomputable def iimpl_FracPow (N : Nat) : Fi := { loans := 0, owns := true, results := [.cell 4 27, .tmp 5], rtys := [27, 4], blks := [], regs := [], masks := [] }
noncomputable def bimpl_FracPow : Code := match Try.f41.body with | some c => c | none => .skip
noncomputable def pimpl_FracPow : Pt := ⟨[(.i (.pair .bool (.pair (.sl (.int .i64)) (.pair (.sl (.int .i64)) .unit)))), (.i (.int .i64))], []⟩
noncomputable def gimpl_FracPow (N : Nat) {α : Type} (v : pimpl_FracPow.V) (K : HV → List Blk → Option α) : Option α := impl_FracPow N v.1.1 v.1.2.1 (fun o0_0 o0_1 o0_2 o0_3 => K (.tuple [(.agg [(.iv .bool o0_0), (.own 0), (.own 1)]), (.iv .bool o0_1)]) [(.arr 3 (.int .i64) o0_2 false), (.arr 3 (.int .i64) o0_3 false)])
theorem eimpl_FracPow.b (N : Nat) {α : Type} (v : pimpl_FracPow.V) (K : HV → List Blk → Option α) : runFn env (ct46 N) (iimpl_FracPow N) Try.f41 (SP.mkL pimpl_FracPow.slots v.1) (BP.mkL pimpl_FracPow.store v.2) K = impl_FracPow.b N v.1.1 v.1.2.1 (fun o0_0 o0_1 o0_2 o0_3 => K (.tuple [(.agg [(.iv .bool o0_0), (.own 0), (.own 1)]), (.iv .bool o0_1)]) [(.arr 3 (.int .i64) o0_2 false), (.arr 3 (.int .i64) o0_3 false)]) := by kernel_rfl
theorem eimpl_FracPow (N : Nat) {α : Type} (v : pimpl_FracPow.V) (K : HV → List Blk → Option α) : runFn env (ct46 N) (iimpl_FracPow N) Try.f41 (SP.mkL pimpl_FracPow.slots v.1) (BP.mkL pimpl_FracPow.store v.2) K = gimpl_FracPow N v K := (eimpl_FracPow.b N v K).trans (by unfold gimpl_FracPow; rw [impl_FracPow.eq])
theorem oimpl_FracPow (N : Nat) : CalleeOK gd P 41 (mkCallee false pimpl_FracPow (gimpl_FracPow N)) :=
  callee_ok fun v K h => fn_snd hE hP (hct46 N) Try.func41 (by kernel_rfl) (body := bimpl_FracPow) (by kernel_rfl) (by kernel_rfl) (AllOK.of (F := iimpl_FracPow N) (l := []) (by kernel_rfl) .nil) (loans := BP.mkL pimpl_FracPow.store v.2) rfl ((eimpl_FracPow N v K).trans h)
noncomputable def ct47 (N : Nat) : CT := (41, (mkCallee false pimpl_FracPow (gimpl_FracPow N))) :: ct46 N
theorem hct47 (N : Nat) : CTOK gd P (ct47 N) := .cons (oimpl_FracPow N) (hct46 N)

noncomputable def plaws_eqIntS_L0 : Pt := ⟨[(.i (.sl (.int .i64))), (.i (.sl (.int .i64))), .u, .u, .u, (.i (.int .i64)), .u, .u, .u, .u, .u, .u, .u, .u, .u, .u, .u, .u, .u, .u, .u, .u, .u, .u, .u, .u], []⟩
noncomputable def glaws_eqIntS_L0 (N n : Nat) {α : Type} (v : plaws_eqIntS_L0.V) (K : Out → Option α) : Option α := laws_eqIntS_L0 N n v.1.1 v.1.2.1 v.1.2.2.2.2.2.1 (fun o0_0 => K (.ret (.iv .bool o0_0) [])) (K (.normal ⟨[.undef, .undef, .undef, .undef, .undef, .undef, .undef, .undef, .undef, .undef, .undef, .undef, .undef, .undef, .undef, .undef, .undef, .undef, .undef, .undef, .undef, .undef, .undef, .undef, .undef, .undef], []⟩))
noncomputable def qlaws_eqIntS_L0 (N : Nat) : Piece := (mkPiece 1029 plaws_eqIntS_L0 (glaws_eqIntS_L0 N N))
noncomputable def ilaws_eqIntS (N : Nat) : Fi := { loans := 0, owns := true, results := [.tmp 4], rtys := [4], blks := [(0, qlaws_eqIntS_L0 N)], regs := [], masks := [(0, 0)] }
noncomputable def blaws_eqIntS : Code := match Try.f24.body with | some c => c | none => .skip
theorem elaws_eqIntS_L0.b (N n : Nat) {α : Type} (v : plaws_eqIntS_L0.V) (K : Out → Option α) : runRound env (ct47 N) (ilaws_eqIntS N) 1029 (mkPiece 1029 plaws_eqIntS_L0 (glaws_eqIntS_L0 N n)).run (.block 0 (.loop (codeAt blaws_eqIntS [1, 1, 0, 1, 0, 0]))) (plaws_eqIntS_L0.mk' v) K = laws_eqIntS_L0r N (fun y0 y1 y2 => laws_eqIntS_L0 N n y0 y1 y2 (fun o0_0 => K (.ret (.iv .bool o0_0) [])) (K (.normal ⟨[.undef, .undef, .undef, .undef, .undef, .undef, .undef, .undef, .undef, .undef, .undef, .undef, .undef, .undef, .undef, .undef, .undef, .undef, .undef, .undef, .undef, .undef, .undef, .undef, .undef, .undef], []⟩))) (fun o0_0 => K (.ret (.iv .bool o0_0) [])) (K (.normal ⟨[.undef, .undef, .undef, .undef, .undef, .undef, .undef, .undef, .undef, .undef, .undef, .undef, .undef, .undef, .undef, .undef, .undef, .undef, .undef, .undef, .undef, .undef, .undef, .undef, .undef, .undef], []⟩)) v.1.1 v.1.2.1 v.1.2.2.2.2.2.1 := by kernel_rfl
theorem elaws_eqIntS_L0 (N n : Nat) {α : Type} (v : plaws_eqIntS_L0.V) (K : Out → Option α) : runRound env (ct47 N) (ilaws_eqIntS N) 1029 (mkPiece 1029 plaws_eqIntS_L0 (glaws_eqIntS_L0 N n)).run (.block 0 (.loop (codeAt blaws_eqIntS [1, 1, 0, 1, 0, 0]))) (plaws_eqIntS_L0.mk' v) K = glaws_eqIntS_L0 N (n + 1) v K := (elaws_eqIntS_L0.b N n v K).trans (by unfold glaws_eqIntS_L0; rw [laws_eqIntS_L0.succ])
theorem olaws_eqIntS_L0 (N : Nat) : PieceOK gd P (ilaws_eqIntS N) (.block 0 (.loop (codeAt blaws_eqIntS [1, 1, 0, 1, 0, 0]))) (mkPiece 1029 plaws_eqIntS_L0 (glaws_eqIntS_L0 N N)) :=
  piece_loop hE hP (hct47 N) (AllOK.of (F := ilaws_eqIntS N) (l := []) (by kernel_rfl) .nil) (fun n {_} => glaws_eqIntS_L0 N n) (fun _ _ => by unfold glaws_eqIntS_L0; rw [laws_eqIntS_L0.zero]) (fun n {_} v K => elaws_eqIntS_L0 N n v K) N
theorem oqlaws_eqIntS_L0 (N : Nat) : PieceOK gd P (ilaws_eqIntS N) (.block 0 (.loop (codeAt blaws_eqIntS [1, 1, 0, 1, 0, 0]))) (qlaws_eqIntS_L0 N) := (olaws_eqIntS_L0 N)
noncomputable def plaws_eqIntS : Pt := ⟨[(.i (.sl (.int .i64))), (.i (.sl (.int .i64)))], []⟩
noncomputable def glaws_eqIntS (N : Nat) {α : Type} (v : plaws_eqIntS.V) (K : HV → List Blk → Option α) : Option α := laws_eqIntS N v.1.1 v.1.2.1 (fun o0_0 => K (.iv .bool o0_0) [])
theorem elaws_eqIntS.b (N : Nat) {α : Type} (v : plaws_eqIntS.V) (K : HV → List Blk → Option α) : runFn env (ct47 N) (ilaws_eqIntS N) Try.f24 (SP.mkL plaws_eqIntS.slots v.1) (BP.mkL plaws_eqIntS.store v.2) K = laws_eqIntS.b N v.1.1 v.1.2.1 (fun o0_0 => K (.iv .bool o0_0) []) := by kernel_rfl
theorem elaws_eqIntS (N : Nat) {α : Type} (v : plaws_eqIntS.V) (K : HV → List Blk → Option α) : runFn env (ct47 N) (ilaws_eqIntS N) Try.f24 (SP.mkL plaws_eqIntS.slots v.1) (BP.mkL plaws_eqIntS.store v.2) K = glaws_eqIntS N v K := (elaws_eqIntS.b N v K).trans (by unfold glaws_eqIntS; rw [laws_eqIntS.eq])
theorem olaws_eqIntS (N : Nat) : CalleeOK gd P 24 (mkCallee false plaws_eqIntS (glaws_eqIntS N)) :=
  callee_ok fun v K h => fn_snd hE hP (hct47 N) Try.func24 (by kernel_rfl) (body := blaws_eqIntS) (by kernel_rfl) (by kernel_rfl) (AllOK.of (F := ilaws_eqIntS N) (l := [((.block 0 (.loop (codeAt blaws_eqIntS [1, 1, 0, 1, 0, 0]))), qlaws_eqIntS_L0 N)]) (by kernel_rfl) (.cons (oqlaws_eqIntS_L0 N) .nil)) (loans := BP.mkL plaws_eqIntS.store v.2) rfl ((elaws_eqIntS N v K).trans h)
noncomputable def ct48 (N : Nat) : CT := (24, (mkCallee false plaws_eqIntS (glaws_eqIntS N))) :: ct47 N
theorem hct48 (N : Nat) : CTOK gd P (ct48 N) := .cons (olaws_eqIntS N) (hct47 N)

noncomputable def ilaws_eqFrac (N : Nat) : Fi := { loans := 0, owns := true, results := [.tmp 4], rtys := [4], blks := [], regs := [], masks := [] }
noncomputable def blaws_eqFrac : Code := match Try.f18.body with | some c => c | none => .skip
noncomputable def plaws_eqFrac : Pt := ⟨[(.i (.pair .bool (.pair (.sl (.int .i64)) (.pair (.sl (.int .i64)) .unit)))), (.i (.pair .bool (.pair (.sl (.int .i64)) (.pair (.sl (.int .i64)) .unit))))], []⟩
noncomputable def glaws_eqFrac (N : Nat) {α : Type} (v : plaws_eqFrac.V) (K : HV → List Blk → Option α) : Option α := laws_eqFrac N v.1.1 v.1.2.1 (fun o0_0 => K (.iv .bool o0_0) [])
theorem elaws_eqFrac.b (N : Nat) {α : Type} (v : plaws_eqFrac.V) (K : HV → List Blk → Option α) : runFn env (ct48 N) (ilaws_eqFrac N) Try.f18 (SP.mkL plaws_eqFrac.slots v.1) (BP.mkL plaws_eqFrac.store v.2) K = laws_eqFrac.b N v.1.1 v.1.2.1 (fun o0_0 => K (.iv .bool o0_0) []) := by kernel_rfl
theorem elaws_eqFrac (N : Nat) {α : Type} (v : plaws_eqFrac.V) (K : HV → List Blk → Option α) : runFn env (ct48 N) (ilaws_eqFrac N) Try.f18 (SP.mkL plaws_eqFrac.slots v.1) (BP.mkL plaws_eqFrac.store v.2) K = glaws_eqFrac N v K := (elaws_eqFrac.b N v K).trans (by unfold glaws_eqFrac; rw [laws_eqFrac.eq])
theorem olaws_eqFrac (N : Nat) : CalleeOK gd P 18 (mkCallee false plaws_eqFrac (glaws_eqFrac N)) :=
  callee_ok fun v K h => fn_snd hE hP (hct48 N) Try.func18 (by kernel_rfl) (body := blaws_eqFrac) (by kernel_rfl) (by kernel_rfl) (AllOK.of (F := ilaws_eqFrac N) (l := []) (by kernel_rfl) .nil) (loans := BP.mkL plaws_eqFrac.store v.2) rfl ((elaws_eqFrac N v K).trans h)
noncomputable def ct49 (N : Nat) : CT := (18, (mkCallee false plaws_eqFrac (glaws_eqFrac N))) :: ct48 N
theorem hct49 (N : Nat) : CTOK gd P (ct49 N) := .cons (olaws_eqFrac N) (hct48 N)

noncomputable def plaws_markIntS_L0 : Pt := ⟨[(.o 0), (.i (.int .i64)), .u, .u, .u, (.i (.int .i64)), .u, .u, .u, .u, .u, .u, .u, .u, .u, .u, .u, .u, .u], [(.arr 3 (.int .i64) false)]⟩
noncomputable def glaws_markIntS_L0 (N n : Nat) {α : Type} (v : plaws_markIntS_L0.V) (K : Out → Option α) : Option α := laws_markIntS_L0 N n v.1.2.1 v.1.2.2.2.2.2.1 v.2.1 (fun o0_0 o0_1 => K (.normal ⟨[.undef, (.iv (.int .i64) o0_0), .undef, .undef, .undef, .undef, .undef, .undef, .undef, .undef, .undef, .undef, .undef, .undef, .undef, .undef, .undef, .undef, .undef], [(.arr 3 (.int .i64) o0_1 false)]⟩))
noncomputable def qlaws_markIntS_L0 (N : Nat) : Piece := (mkPiece 1029 plaws_markIntS_L0 (glaws_markIntS_L0 N N))
noncomputable def ilaws_markIntS (N : Nat) : Fi := { loans := 1, owns := true, results := [.tmp 4], rtys := [3], blks := [(0, qlaws_markIntS_L0 N)], regs := [], masks := [(0, 4)] }
noncomputable def blaws_markIntS : Code := match Try.f25.body with | some c => c | none => .skip
theorem elaws_markIntS_L0.b (N n : Nat) {α : Type} (v : plaws_markIntS_L0.V) (K : Out → Option α) : runRound env (ct49 N) (ilaws_markIntS N) 1029 (mkPiece 1029 plaws_markIntS_L0 (glaws_markIntS_L0 N n)).run (.block 0 (.loop (codeAt blaws_markIntS [1, 0, 1, 0, 0]))) (plaws_markIntS_L0.mk' v) K = laws_markIntS_L0r N (fun y0 y1 y2 => laws_markIntS_L0 N n y0 y1 y2 (fun o0_0 o0_1 => K (.normal ⟨[.undef, (.iv (.int .i64) o0_0), .undef, .undef, .undef, .undef, .undef, .undef, .undef, .undef, .undef, .undef, .undef, .undef, .undef, .undef, .undef, .undef, .undef], [(.arr 3 (.int .i64) o0_1 false)]⟩))) (fun o0_0 o0_1 => K (.normal ⟨[.undef, (.iv (.int .i64) o0_0), .undef, .undef, .undef, .undef, .undef, .undef, .undef, .undef, .undef, .undef, .undef, .undef, .undef, .undef, .undef, .undef, .undef], [(.arr 3 (.int .i64) o0_1 false)]⟩)) v.1.2.1 v.1.2.2.2.2.2.1 v.2.1 := by kernel_rfl
theorem elaws_markIntS_L0 (N n : Nat) {α : Type} (v : plaws_markIntS_L0.V) (K : Out → Option α) : runRound env (ct49 N) (ilaws_markIntS N) 1029 (mkPiece 1029 plaws_markIntS_L0 (glaws_markIntS_L0 N n)).run (.block 0 (.loop (codeAt blaws_markIntS [1, 0, 1, 0, 0]))) (plaws_markIntS_L0.mk' v) K = glaws_markIntS_L0 N (n + 1) v K := (elaws_markIntS_L0.b N n v K).trans (by unfold glaws_markIntS_L0; rw [laws_markIntS_L0.succ])
theorem olaws_markIntS_L0 (N : Nat) : PieceOK gd P (ilaws_markIntS N) (.block 0 (.loop (codeAt blaws_markIntS [1, 0, 1, 0, 0]))) (mkPiece 1029 plaws_markIntS_L0 (glaws_markIntS_L0 N N)) :=
  piece_loop hE hP (hct49 N) (AllOK.of (F := ilaws_markIntS N) (l := []) (by kernel_rfl) .nil) (fun n {_} => glaws_markIntS_L0 N n) (fun _ _ => by unfold glaws_markIntS_L0; rw [laws_markIntS_L0.zero]) (fun n {_} v K => elaws_markIntS_L0 N n v K) N
theorem oqlaws_markIntS_L0 (N : Nat) : PieceOK gd P (ilaws_markIntS N) (.block 0 (.loop (codeAt blaws_markIntS [1, 0, 1, 0, 0]))) (qlaws_markIntS_L0 N) := (olaws_markIntS_L0 N)
noncomputable def plaws_markIntS : Pt := ⟨[(.o 0), (.i (.int .i64))], [(.arr 3 (.int .i64) false)]⟩
noncomputable def glaws_markIntS (N : Nat) {α : Type} (v : plaws_markIntS.V) (K : HV → List Blk → Option α) : Option α := laws_markIntS N v.1.2.1 v.2.1 (fun o0_0 o0_1 => K (.iv (.int .i64) o0_0) [(.arr 3 (.int .i64) o0_1 false)])
theorem elaws_markIntS.b (N : Nat) {α : Type} (v : plaws_markIntS.V) (K : HV → List Blk → Option α) : runFn env (ct49 N) (ilaws_markIntS N) Try.f25 (SP.mkL plaws_markIntS.slots v.1) (BP.mkL plaws_markIntS.store v.2) K = laws_markIntS.b N v.1.2.1 v.2.1 (fun o0_0 o0_1 => K (.iv (.int .i64) o0_0) [(.arr 3 (.int .i64) o0_1 false)]) := by kernel_rfl
theorem elaws_markIntS (N : Nat) {α : Type} (v : plaws_markIntS.V) (K : HV → List Blk → Option α) : runFn env (ct49 N) (ilaws_markIntS N) Try.f25 (SP.mkL plaws_markIntS.slots v.1) (BP.mkL plaws_markIntS.store v.2) K = glaws_markIntS N v K := (elaws_markIntS.b N v K).trans (by unfold glaws_markIntS; rw [laws_markIntS.eq])
theorem olaws_markIntS (N : Nat) : CalleeOK gd P 25 (mkCallee true plaws_markIntS (glaws_markIntS N)) :=
  callee_ok fun v K h => fn_snd hE hP (hct49 N) Try.func25 (by kernel_rfl) (body := blaws_markIntS) (by kernel_rfl) (by kernel_rfl) (AllOK.of (F := ilaws_markIntS N) (l := [((.block 0 (.loop (codeAt blaws_markIntS [1, 0, 1, 0, 0]))), qlaws_markIntS_L0 N)]) (by kernel_rfl) (.cons (oqlaws_markIntS_L0 N) .nil)) (loans := BP.mkL plaws_markIntS.store v.2) rfl ((elaws_markIntS N v K).trans h)
noncomputable def ct50 (N : Nat) : CT := (25, (mkCallee true plaws_markIntS (glaws_markIntS N))) :: ct49 N
theorem hct50 (N : Nat) : CTOK gd P (ct50 N) := .cons (olaws_markIntS N) (hct49 N)

noncomputable def ilaws_markFrac (N : Nat) : Fi := { loans := 2, owns := true, results := [.tmp 4], rtys := [3], blks := [], regs := [], masks := [] }
noncomputable def blaws_markFrac : Code := match Try.f26.body with | some c => c | none => .skip
noncomputable def plaws_markFrac : Pt := ⟨[(.a [(.i .bool), (.o 0), (.o 1)]), (.i (.int .i64))], [(.arr 3 (.int .i64) false), (.arr 3 (.int .i64) false)]⟩
noncomputable def glaws_markFrac (N : Nat) {α : Type} (v : plaws_markFrac.V) (K : HV → List Blk → Option α) : Option α := laws_markFrac N v.1.1.1 v.1.2.1 v.2.1 v.2.2.1 (fun o0_0 o0_1 o0_2 => K (.iv (.int .i64) o0_0) [(.arr 3 (.int .i64) o0_1 false), (.arr 3 (.int .i64) o0_2 false)])
theorem elaws_markFrac.b (N : Nat) {α : Type} (v : plaws_markFrac.V) (K : HV → List Blk → Option α) : runFn env (ct50 N) (ilaws_markFrac N) Try.f26 (SP.mkL plaws_markFrac.slots v.1) (BP.mkL plaws_markFrac.store v.2) K = laws_markFrac.b N v.1.1.1 v.1.2.1 v.2.1 v.2.2.1 (fun o0_0 o0_1 o0_2 => K (.iv (.int .i64) o0_0) [(.arr 3 (.int .i64) o0_1 false), (.arr 3 (.int .i64) o0_2 false)]) := by kernel_rfl
theorem elaws_markFrac (N : Nat) {α : Type} (v : plaws_markFrac.V) (K : HV → List Blk → Option α) : runFn env (ct50 N) (ilaws_markFrac N) Try.f26 (SP.mkL plaws_markFrac.slots v.1) (BP.mkL plaws_markFrac.store v.2) K = glaws_markFrac N v K := (elaws_markFrac.b N v K).trans (by unfold glaws_markFrac; rw [laws_markFrac.eq])
theorem olaws_markFrac (N : Nat) : CalleeOK gd P 26 (mkCallee true plaws_markFrac (glaws_markFrac N)) :=
  callee_ok fun v K h => fn_snd hE hP (hct50 N) Try.func26 (by kernel_rfl) (body := blaws_markFrac) (by kernel_rfl) (by kernel_rfl) (AllOK.of (F := ilaws_markFrac N) (l := []) (by kernel_rfl) .nil) (loans := BP.mkL plaws_markFrac.store v.2) rfl ((elaws_markFrac N v K).trans h)
noncomputable def ct51 (N : Nat) : CT := (26, (mkCallee true plaws_markFrac (glaws_markFrac N))) :: ct50 N
theorem hct51 (N : Nat) : CTOK gd P (ct51 N) := .cons (olaws_markFrac N) (hct50 N)

noncomputable def plaws_heldIntS_L0 : Pt := ⟨[(.i (.sl (.int .i64))), (.i (.int .i64)), .u, .u, .u, (.i (.int .i64)), .u, .u, .u, .u, .u, .u, .u, .u, .u, .u, .u, .u, .u, .u, .u], []⟩
noncomputable def glaws_heldIntS_L0 (N n : Nat) {α : Type} (v : plaws_heldIntS_L0.V) (K : Out → Option α) : Option α := laws_heldIntS_L0 N n v.1.1 v.1.2.1 v.1.2.2.2.2.2.1 (fun o0_0 => K (.ret (.iv (.int .i64) o0_0) [])) (fun o1_0 => K (.normal ⟨[.undef, (.iv (.int .i64) o1_0), .undef, .undef, .undef, .undef, .undef, .undef, .undef, .undef, .undef, .undef, .undef, .undef, .undef, .undef, .undef, .undef, .undef, .undef, .undef], []⟩))
noncomputable def qlaws_heldIntS_L0 (N : Nat) : Piece := (mkPiece 1029 plaws_heldIntS_L0 (glaws_heldIntS_L0 N N))
noncomputable def ilaws_heldIntS (N : Nat) : Fi := { loans := 0, owns := true, results := [.tmp 4], rtys := [3], blks := [(0, qlaws_heldIntS_L0 N)], regs := [], masks := [(0, 4)] }
noncomputable def blaws_heldIntS : Code := match Try.f57.body with | some c => c | none => .skip
theorem elaws_heldIntS_L0.b (N n : Nat) {α : Type} (v : plaws_heldIntS_L0.V) (K : Out → Option α) : runRound env (ct51 N) (ilaws_heldIntS N) 1029 (mkPiece 1029 plaws_heldIntS_L0 (glaws_heldIntS_L0 N n)).run (.block 0 (.loop (codeAt blaws_heldIntS [1, 0, 1, 0, 0]))) (plaws_heldIntS_L0.mk' v) K = laws_heldIntS_L0r N (fun y0 y1 y2 => laws_heldIntS_L0 N n y0 y1 y2 (fun o0_0 => K (.ret (.iv (.int .i64) o0_0) [])) (fun o1_0 => K (.normal ⟨[.undef, (.iv (.int .i64) o1_0), .undef, .undef, .undef, .undef, .undef, .undef, .undef, .undef, .undef, .undef, .undef, .undef, .undef, .undef, .undef, .undef, .undef, .undef, .undef], []⟩))) (fun o0_0 => K (.ret (.iv (.int .i64) o0_0) [])) (fun o1_0 => K (.normal ⟨[.undef, (.iv (.int .i64) o1_0), .undef, .undef, .undef, .undef, .undef, .undef, .undef, .undef, .undef, .undef, .undef, .undef, .undef, .undef, .undef, .undef, .undef, .undef, .undef], []⟩)) v.1.1 v.1.2.1 v.1.2.2.2.2.2.1 := by kernel_rfl
theorem elaws_heldIntS_L0 (N n : Nat) {α : Type} (v : plaws_heldIntS_L0.V) (K : Out → Option α) : runRound env (ct51 N) (ilaws_heldIntS N) 1029 (mkPiece 1029 plaws_heldIntS_L0 (glaws_heldIntS_L0 N n)).run (.block 0 (.loop (codeAt blaws_heldIntS [1, 0, 1, 0, 0]))) (plaws_heldIntS_L0.mk' v) K = glaws_heldIntS_L0 N (n + 1) v K := (elaws_heldIntS_L0.b N n v K).trans (by unfold glaws_heldIntS_L0; rw [laws_heldIntS_L0.succ])
theorem olaws_heldIntS_L0 (N : Nat) : PieceOK gd P (ilaws_heldIntS N) (.block 0 (.loop (codeAt blaws_heldIntS [1, 0, 1, 0, 0]))) (mkPiece 1029 plaws_heldIntS_L0 (glaws_heldIntS_L0 N N)) :=
  piece_loop hE hP (hct51 N) (AllOK.of (F := ilaws_heldIntS N) (l := []) (by kernel_rfl) .nil) (fun n {_} => glaws_heldIntS_L0 N n) (fun _ _ => by unfold glaws_heldIntS_L0; rw [laws_heldIntS_L0.zero]) (fun n {_} v K => elaws_heldIntS_L0 N n v K) N
theorem oqlaws_heldIntS_L0 (N : Nat) : PieceOK gd P (ilaws_heldIntS N) (.block 0 (.loop (codeAt blaws_heldIntS [1, 0, 1, 0, 0]))) (qlaws_heldIntS_L0 N) := (olaws_heldIntS_L0 N)
noncomputable def plaws_heldIntS : Pt := ⟨[(.i (.sl (.int .i64))), (.i (.int .i64))], []⟩
noncomputable def glaws_heldIntS (N : Nat) {α : Type} (v : plaws_heldIntS.V) (K : HV → List Blk → Option α) : Option α := laws_heldIntS N v.1.1 v.1.2.1 (fun o0_0 => K (.iv (.int .i64) o0_0) [])
theorem elaws_heldIntS.b (N : Nat) {α : Type} (v : plaws_heldIntS.V) (K : HV → List Blk → Option α) : runFn env (ct51 N) (ilaws_heldIntS N) Try.f57 (SP.mkL plaws_heldIntS.slots v.1) (BP.mkL plaws_heldIntS.store v.2) K = laws_heldIntS.b N v.1.1 v.1.2.1 (fun o0_0 => K (.iv (.int .i64) o0_0) []) := by kernel_rfl
theorem elaws_heldIntS (N : Nat) {α : Type} (v : plaws_heldIntS.V) (K : HV → List Blk → Option α) : runFn env (ct51 N) (ilaws_heldIntS N) Try.f57 (SP.mkL plaws_heldIntS.slots v.1) (BP.mkL plaws_heldIntS.store v.2) K = glaws_heldIntS N v K := (elaws_heldIntS.b N v K).trans (by unfold glaws_heldIntS; rw [laws_heldIntS.eq])
theorem olaws_heldIntS (N : Nat) : CalleeOK gd P 57 (mkCallee false plaws_heldIntS (glaws_heldIntS N)) :=
  callee_ok fun v K h => fn_snd hE hP (hct51 N) Try.func57 (by kernel_rfl) (body := blaws_heldIntS) (by kernel_rfl) (by kernel_rfl) (AllOK.of (F := ilaws_heldIntS N) (l := [((.block 0 (.loop (codeAt blaws_heldIntS [1, 0, 1, 0, 0]))), qlaws_heldIntS_L0 N)]) (by kernel_rfl) (.cons (oqlaws_heldIntS_L0 N) .nil)) (loans := BP.mkL plaws_heldIntS.store v.2) rfl ((elaws_heldIntS N v K).trans h)
noncomputable def ct52 (N : Nat) : CT := (57, (mkCallee false plaws_heldIntS (glaws_heldIntS N))) :: ct51 N
theorem hct52 (N : Nat) : CTOK gd P (ct52 N) := .cons (olaws_heldIntS N) (hct51 N)

noncomputable def ilaws_heldFrac (N : Nat) : Fi := { loans := 0, owns := true, results := [.tmp 4], rtys := [3], blks := [], regs := [], masks := [] }
noncomputable def blaws_heldFrac : Code := match Try.f27.body with | some c => c | none => .skip
noncomputable def plaws_heldFrac : Pt := ⟨[(.i (.pair .bool (.pair (.sl (.int .i64)) (.pair (.sl (.int .i64)) .unit)))), (.i (.int .i64))], []⟩
noncomputable def glaws_heldFrac (N : Nat) {α : Type} (v : plaws_heldFrac.V) (K : HV → List Blk → Option α) : Option α := laws_heldFrac N v.1.1 v.1.2.1 (fun o0_0 => K (.iv (.int .i64) o0_0) [])
theorem elaws_heldFrac.b (N : Nat) {α : Type} (v : plaws_heldFrac.V) (K : HV → List Blk → Option α) : runFn env (ct52 N) (ilaws_heldFrac N) Try.f27 (SP.mkL plaws_heldFrac.slots v.1) (BP.mkL plaws_heldFrac.store v.2) K = laws_heldFrac.b N v.1.1 v.1.2.1 (fun o0_0 => K (.iv (.int .i64) o0_0) []) := by kernel_rfl
theorem elaws_heldFrac (N : Nat) {α : Type} (v : plaws_heldFrac.V) (K : HV → List Blk → Option α) : runFn env (ct52 N) (ilaws_heldFrac N) Try.f27 (SP.mkL plaws_heldFrac.slots v.1) (BP.mkL plaws_heldFrac.store v.2) K = glaws_heldFrac N v K := (elaws_heldFrac.b N v K).trans (by unfold glaws_heldFrac; rw [laws_heldFrac.eq])
theorem olaws_heldFrac (N : Nat) : CalleeOK gd P 27 (mkCallee false plaws_heldFrac (glaws_heldFrac N)) :=
  callee_ok fun v K h => fn_snd hE hP (hct52 N) Try.func27 (by kernel_rfl) (body := blaws_heldFrac) (by kernel_rfl) (by kernel_rfl) (AllOK.of (F := ilaws_heldFrac N) (l := []) (by kernel_rfl) .nil) (loans := BP.mkL plaws_heldFrac.store v.2) rfl ((elaws_heldFrac N v K).trans h)
noncomputable def ct53 (N : Nat) : CT := (27, (mkCallee false plaws_heldFrac (glaws_heldFrac N))) :: ct52 N
theorem hct53 (N : Nat) : CTOK gd P (ct53 N) := .cons (olaws_heldFrac N) (hct52 N)

noncomputable def ilaws_FnExactFracPow (N : Nat) : Fi := { loans := 0, owns := true, results := [.tmp 4], rtys := [4], blks := [], regs := [], masks := [] }
noncomputable def blaws_FnExactFracPow : Code := match Try.f11.body with | some c => c | none => .skip
noncomputable def plaws_FnExactFracPow : Pt := ⟨[(.i (.pair .bool (.pair (.sl (.int .i64)) (.pair (.sl (.int .i64)) .unit)))), (.i (.int .i64))], []⟩
noncomputable def glaws_FnExactFracPow (N : Nat) {α : Type} (v : plaws_FnExactFracPow.V) (K : HV → List Blk → Option α) : Option α := laws_FnExactFracPow N v.1.1 v.1.2.1 (fun o0_0 => K (.iv .bool o0_0) [])
theorem elaws_FnExactFracPow.b (N : Nat) {α : Type} (v : plaws_FnExactFracPow.V) (K : HV → List Blk → Option α) : runFn env (ct53 N) (ilaws_FnExactFracPow N) Try.f11 (SP.mkL plaws_FnExactFracPow.slots v.1) (BP.mkL plaws_FnExactFracPow.store v.2) K = laws_FnExactFracPow.b N v.1.1 v.1.2.1 (fun o0_0 => K (.iv .bool o0_0) []) := by kernel_rfl
theorem elaws_FnExactFracPow (N : Nat) {α : Type} (v : plaws_FnExactFracPow.V) (K : HV → List Blk → Option α) : runFn env (ct53 N) (ilaws_FnExactFracPow N) Try.f11 (SP.mkL plaws_FnExactFracPow.slots v.1) (BP.mkL plaws_FnExactFracPow.store v.2) K = glaws_FnExactFracPow N v K := (elaws_FnExactFracPow.b N v K).trans (by unfold glaws_FnExactFracPow; rw [laws_FnExactFracPow.eq])
theorem olaws_FnExactFracPow (N : Nat) : CalleeOK gd P 11 (mkCallee false plaws_FnExactFracPow (glaws_FnExactFracPow N)) :=
  callee_ok fun v K h => fn_snd hE hP (hct53 N) Try.func11 (by kernel_rfl) (body := blaws_FnExactFracPow) (by kernel_rfl) (by kernel_rfl) (AllOK.of (F := ilaws_FnExactFracPow N) (l := []) (by kernel_rfl) .nil) (loans := BP.mkL plaws_FnExactFracPow.store v.2) rfl ((elaws_FnExactFracPow N v K).trans h)
noncomputable def ct54 (N : Nat) : CT := (11, (mkCallee false plaws_FnExactFracPow (glaws_FnExactFracPow N))) :: ct53 N
theorem hct54 (N : Nat) : CTOK gd P (ct54 N) := .cons (olaws_FnExactFracPow N) (hct53 N)

end
end
end Go.Proofs.YthjjaddhcdekjaaAm
