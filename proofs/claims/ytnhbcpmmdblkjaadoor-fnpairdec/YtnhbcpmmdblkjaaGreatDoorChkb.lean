/-
 The functions are what the program computes. Printed by amp.py.
-/
import Derived.Test.YtnhbcpmmdblkjaaGreatDoorChk
namespace Go.Proofs.YtnhbcpmmdblkjaaGreatDoorAm
open Go
noncomputable section
set_option linter.unusedVariables false
set_option linter.unusedSimpArgs false
section
variable (N:Nat) {α:Type}
theorem o_do (N:Nat):wv gd P (i_dq N) n_do (q_do N) :=
 wG hE hP (wi9 N) (wn.of (by kernel_rfl) .nil) (wn.of (by kernel_rfl) .nil) (e_do N)
theorem e_dp (v:p_dp.V) (K:KO α):wcK env (wkK N) (i_dq N) 4097 n_dp (p_dp.mk' v) K=g_dp N v K:=Eq.trans (b:=z_dp N @wbQ.b v K) (by kernel_rfl) (by unfold g_dp; rw [wbQ.eq])
theorem o_dp (N:Nat):wv gd P (i_dq N) n_dp (q_dp N) :=
 wG hE hP (wi9 N) (wn.of (by kernel_rfl) .nil) (wn.of (by kernel_rfl) (.cons (o_do N) .nil)) (e_dp N)
noncomputable def p_dq:Pt:=⟨[(.p 0 [] 0),(.i (.int .i64))],[(.box 107 (.i (.pair (.sl (.int .u8)) (.pair (.int .i64) .unit))) false)]⟩
noncomputable def z_dq (F:type_of% @wcB) (v:p_dq.V) (K:KF α):Option α:=F N v.1.2.1 v.2.1 (fun o0_0 o0_1=>K (.iv (.int .i64) o0_0) [(.box 107 (.iv (.pair (.sl (.int .u8)) (.pair (.int .i64) .unit)) o0_1) false)])
noncomputable def g_dq (v:p_dq.V) (K:KF α):Option α:=z_dq N @wcB v K
theorem e_dq (v:p_dq.V) (K:KF α):wbB env (wkK N) (i_dq N) Tryz.f128 (SP.mkL p_dq.slots v.1) (BP.mkL p_dq.store v.2) K=g_dq N v K:=Eq.trans (b:=z_dq N @wcB.b v K) (by kernel_rfl) (by unfold g_dq; rw [wcB.eq])
theorem o_dq (N:Nat):wk gd P 128 (wa false p_dq (g_dq N)) :=
 wh fun v K h=>wJ hE hP (wi9 N) Tryz.func128 (by kernel_rfl) (body:=b_dq) (by kernel_rfl) (by kernel_rfl) (wn.of (by kernel_rfl) (.cons (o_dn N) (.cons (o_dp N) .nil))) (loans:=BP.mkL p_dq.store v.2) rfl ((e_dq N v K).trans h)
noncomputable def wsB (N:Nat):CT:=(128,(wa false p_dq (g_dq N)))::wkK N
theorem wr4 (N:Nat):CTOK gd P (wsB N):=.cons (o_dq N) (wi9 N)

noncomputable def i_dr (N:Nat):Fi:={ loans:=0,owns:=true,results:=[.tmp 4],rtys:=[4],blks:=[],regs:=[],masks:=[] }
noncomputable def b_dr:Code:=match Tryz.f178.body with | some c=>c | none=>.skip
noncomputable def p_dr:Pt:=⟨[(.i (.int .i64)),(.i (.int .i64))],[]⟩
noncomputable def z_dr (F:type_of% @we6) (v:p_dr.V) (K:KF α):Option α:=F N v.1.1 v.1.2.1 (fun o0_0=>K (.iv .bool o0_0) [])
noncomputable def g_dr (v:p_dr.V) (K:KF α):Option α:=z_dr N @we6 v K
theorem e_dr (v:p_dr.V) (K:KF α):wbB env (wsB N) (i_dr N) Tryz.f178 (SP.mkL p_dr.slots v.1) (BP.mkL p_dr.store v.2) K=g_dr N v K:=Eq.trans (b:=z_dr N @we6.b v K) (by kernel_rfl) (by unfold g_dr; rw [we6.eq])
theorem o_dr (N:Nat):wk gd P 178 (wa false p_dr (g_dr N)) :=
 wh fun v K h=>wJ hE hP (wr4 N) Tryz.func178 (by kernel_rfl) (body:=b_dr) (by kernel_rfl) (by kernel_rfl) (wn.of (by kernel_rfl) .nil) (loans:=BP.mkL p_dr.store v.2) rfl ((e_dr N v K).trans h)
noncomputable def wq2 (N:Nat):CT:=(178,(wa false p_dr (g_dr N)))::wsB N
theorem wpf (N:Nat):CTOK gd P (wq2 N):=.cons (o_dr N) (wr4 N)

noncomputable def p_ds:Pt:=⟨(.i (.int .i64))::.u::.u::.u::(.p 0 [] 0)::.u::(.p 1 [] 0)::(.i (.int .i64))::ups 57 ([]),[(.box 116 (.i (.pair .bool (.pair (.int .u64) (.pair (.int .i64) .unit)))) false),(.box 116 (.i (.pair .bool (.pair (.int .u64) (.pair (.int .i64) .unit)))) false)]⟩
noncomputable def z_ds (F:type_of% @wcG) (v:p_ds.V) (K:KO α):Option α:=F N v.1.1 v.1.2.2.2.2.2.2.2.1 v.2.1 v.2.2.1 (fun o0_0 o0_1 o0_2 o0_3=>K (.normal ⟨(.iv (.int .i64) o0_0)::U::U::U::(.lp 0 [] 0)::U::(.lp 1 [] 0)::(.iv (.int .i64) o0_1)::us 57 ([]),[(.box 116 (.iv (.pair .bool (.pair (.int .u64) (.pair (.int .i64) .unit))) o0_2) false),(.box 116 (.iv (.pair .bool (.pair (.int .u64) (.pair (.int .i64) .unit))) o0_3) false)]⟩))
noncomputable def g_ds (v:p_ds.V) (K:KO α):Option α:=z_ds N @wcG v K
noncomputable def p_dt:Pt:=⟨ups 4 ((.p 0 [] 0)::.u::(.p 1 [] 0)::.u::(.i (.int .i64))::(.i (.int .i64))::ups 55 ([])),[(.box 116 (.i (.pair .bool (.pair (.int .u64) (.pair (.int .i64) .unit)))) false),(.box 116 (.i (.pair .bool (.pair (.int .u64) (.pair (.int .i64) .unit)))) false)]⟩
noncomputable def z_dt (F:type_of% @wcH) (v:p_dt.V) (K:KO α):Option α:=F N (nx 4 v.1).2.2.2.2.1 (nx 4 v.1).2.2.2.2.2.1 v.2.1 v.2.2.1 (fun o0_0 o0_1=>K (.normal ⟨us 4 ((.lp 0 [] 0)::U::(.lp 1 [] 0)::us 58 ([])),[(.box 116 (.iv (.pair .bool (.pair (.int .u64) (.pair (.int .i64) .unit))) o0_0) false),(.box 116 (.iv (.pair .bool (.pair (.int .u64) (.pair (.int .i64) .unit))) o0_1) false)]⟩))
noncomputable def g_dt (v:p_dt.V) (K:KO α):Option α:=z_dt N @wcH v K
noncomputable def q_ds (N:Nat):Piece:=(wj 20737 p_ds (g_ds N))
noncomputable def q_dt (N:Nat):Piece:=(wj 332032 p_dt (g_dt N))
noncomputable def i_du (N:Nat):Fi:={ loans:=0,owns:=true,results:=[.cell 4 116,.tmp 5],rtys:=[116,4],blks:=[],regs:=[(5,q_ds N),(10,q_dt N)],masks:=[] }
noncomputable def b_du:Code:=match Tryz.f153.body with | some c=>c | none=>.skip
noncomputable def n_ds:Code:=(.seq (wq b_du [1,1,1,1,0,0]) (wq b_du [1,1,1,1,0,1]))
noncomputable def n_dt:Code:=(.seq (wq b_du [1,1,1,1,1,1,1,1,0,0]) (wq b_du [1,1,1,1,1,1,1,1,0,1]))
theorem e_ds (v:p_ds.V) (K:KO α):wcK env (wq2 N) (i_du N) 20737 n_ds (p_ds.mk' v) K=g_ds N v K:=Eq.trans (b:=z_ds N @wcG.b v K) (by kernel_rfl) (by unfold g_ds; rw [wcG.eq])
theorem o_ds (N:Nat):wv gd P (i_du N) n_ds (q_ds N) :=
 wG hE hP (wpf N) (wn.of (by kernel_rfl) .nil) (wn.of (by kernel_rfl) .nil) (e_ds N)
theorem e_dt (v:p_dt.V) (K:KO α):wcK env (wq2 N) (i_du N) 4352 n_dt (p_dt.mk' v) K=g_dt N v K:=Eq.trans (b:=z_dt N @wcH.b v K) (by kernel_rfl) (by unfold g_dt; rw [wcH.eq])
theorem o_dt (N:Nat):wv gd P (i_du N) n_dt (q_dt N) :=
 wG hE hP (wpf N) (wn.of (by kernel_rfl) .nil) (wn.of (by kernel_rfl) .nil) (e_dt N)
noncomputable def p_du:Pt:=⟨[(.i (.int .i64)),(.i (.int .i64))],[]⟩
noncomputable def z_du (F:type_of% @wdc) (v:p_du.V) (K:KF α):Option α:=F N v.1.1 v.1.2.1 (fun o0_0 o0_1=>K (.tuple [(.iv (.pair .bool (.pair (.int .u64) (.pair (.int .i64) .unit))) o0_0),(.iv .bool o0_1)]) [])
noncomputable def g_du (v:p_du.V) (K:KF α):Option α:=z_du N @wdc v K
theorem e_du (v:p_du.V) (K:KF α):wbB env (wq2 N) (i_du N) Tryz.f153 (SP.mkL p_du.slots v.1) (BP.mkL p_du.store v.2) K=g_du N v K:=Eq.trans (b:=z_du N @wdc.b v K) (by kernel_rfl) (by unfold g_du; rw [wdc.eq])
theorem o_du (N:Nat):wk gd P 153 (wa false p_du (g_du N)) :=
 wh fun v K h=>wJ hE hP (wpf N) Tryz.func153 (by kernel_rfl) (body:=b_du) (by kernel_rfl) (by kernel_rfl) (wn.of (by kernel_rfl) (.cons (o_ds N) (.cons (o_dt N) .nil))) (loans:=BP.mkL p_du.store v.2) rfl ((e_du N v K).trans h)
noncomputable def wru (N:Nat):CT:=(153,(wa false p_du (g_du N)))::wq2 N
theorem wqh (N:Nat):CTOK gd P (wru N):=.cons (o_du N) (wpf N)

noncomputable def p_dv:Pt:=⟨ups 4 ((.p 0 [] 0)::(.p 1 [] 0)::.u::(.p 2 [] 0)::ups 29 ([])),[(.box 122 (.a [(.i .bool),(.o 3),(.o 4)]) false),(.box 116 (.i (.pair .bool (.pair (.int .u64) (.pair (.int .i64) .unit)))) false),(.box 122 (.a [(.i .bool),(.o 5),(.o 6)]) false),(.arr 3 (.int .i64) false),(.arr 3 (.int .i64) false),(.arr 3 (.int .i64) false),(.arr 3 (.int .i64) false)]⟩
noncomputable def z_dv (F:type_of% @wey) (v:p_dv.V) (K:KO α):Option α:=F N v.2.1.1 v.2.2.1 v.2.2.2.1.1 v.2.2.2.2.1 v.2.2.2.2.2.1 v.2.2.2.2.2.2.1 v.2.2.2.2.2.2.2.1 (fun o0_0 o0_1 o0_2 o0_3 o0_4 o0_5=>K (.normal ⟨us 4 ((.lp 0 [] 0)::U::U::(.lp 1 [] 0)::us 29 ([])),[(.box 122 (.agg [(.iv .bool o0_0),(.own 2),(.own 3)]) false),(.box 122 (.agg [(.iv .bool o0_1),(.own 4),(.own 5)]) false),(.arr 3 (.int .i64) o0_2 false),(.arr 3 (.int .i64) o0_3 false),(.arr 3 (.int .i64) o0_4 false),(.arr 3 (.int .i64) o0_5 false)]⟩))
noncomputable def g_dv (v:p_dv.V) (K:KO α):Option α:=z_dv N @wey v K
noncomputable def q_dv (N:Nat):Piece:=(wj 17664 p_dv (g_dv N))
noncomputable def i_dw (N:Nat):Fi:={ loans:=0,owns:=true,results:=[.cell 4 122],rtys:=[122],blks:=[],regs:=[(3,q_dv N)],masks:=[] }
noncomputable def b_dw:Code:=match Tryz.f154.body with | some c=>c | none=>.skip
noncomputable def n_dv:Code:=(.seq (wq b_dw [1,1,1,0,0]) (wq b_dw [1,1,1,0,1]))
theorem e_dv (v:p_dv.V) (K:KO α):wcK env (wru N) (i_dw N) 16640 n_dv (p_dv.mk' v) K=g_dv N v K:=Eq.trans (b:=z_dv N @wey.b v K) (by kernel_rfl) (by unfold g_dv; rw [wey.eq])
theorem o_dv (N:Nat):wv gd P (i_dw N) n_dv (q_dv N) :=
 wG hE hP (wqh N) (wn.of (by kernel_rfl) .nil) (wn.of (by kernel_rfl) .nil) (e_dv N)
noncomputable def p_dw:Pt:=⟨[(.i (.int .i64)),(.i (.int .i64))],[]⟩
noncomputable def z_dw (F:type_of% @wfx) (v:p_dw.V) (K:KF α):Option α:=F N v.1.1 v.1.2.1 (fun o0_0 o0_1 o0_2=>K (.agg [(.iv .bool o0_0),(.own 0),(.own 1)]) [(.arr 3 (.int .i64) o0_1 false),(.arr 3 (.int .i64) o0_2 false)])
noncomputable def g_dw (v:p_dw.V) (K:KF α):Option α:=z_dw N @wfx v K
theorem e_dw (v:p_dw.V) (K:KF α):wbB env (wru N) (i_dw N) Tryz.f154 (SP.mkL p_dw.slots v.1) (BP.mkL p_dw.store v.2) K=g_dw N v K:=Eq.trans (b:=z_dw N @wfx.b v K) (by kernel_rfl) (by unfold g_dw; rw [wfx.eq])
theorem o_dw (N:Nat):wk gd P 154 (wa false p_dw (g_dw N)) :=
 wh fun v K h=>wJ hE hP (wqh N) Tryz.func154 (by kernel_rfl) (body:=b_dw) (by kernel_rfl) (by kernel_rfl) (wn.of (by kernel_rfl) (.cons (o_dv N) .nil)) (loans:=BP.mkL p_dw.store v.2) rfl ((e_dw N v K).trans h)
noncomputable def wte (N:Nat):CT:=(154,(wa false p_dw (g_dw N)))::wru N
theorem wsh (N:Nat):CTOK gd P (wte N):=.cons (o_dw N) (wqh N)

noncomputable def i_dx (N:Nat):Fi:={ loans:=0,owns:=true,results:=[.cell 4 25,.tmp 5],rtys:=[25,4],blks:=[],regs:=[],masks:=[] }
noncomputable def b_dx:Code:=match Tryz.f127.body with | some c=>c | none=>.skip
noncomputable def p_dx:Pt:=⟨[(.i (.int .i64)),(.i (.int .i64))],[]⟩
noncomputable def z_dx (F:type_of% @wc3) (v:p_dx.V) (K:KF α):Option α:=F N v.1.1 v.1.2.1 (fun o0_0 o0_1 o0_2 o0_3=>K (.tuple [(.agg [(.iv .bool o0_0),(.own 0),(.own 1)]),(.iv .bool o0_1)]) [(.arr 3 (.int .i64) o0_2 false),(.arr 3 (.int .i64) o0_3 false)])
noncomputable def g_dx (v:p_dx.V) (K:KF α):Option α:=z_dx N @wc3 v K
theorem e_dx (v:p_dx.V) (K:KF α):wbB env (wte N) (i_dx N) Tryz.f127 (SP.mkL p_dx.slots v.1) (BP.mkL p_dx.store v.2) K=g_dx N v K:=Eq.trans (b:=z_dx N @wc3.b v K) (by kernel_rfl) (by unfold g_dx; rw [wc3.eq])
theorem o_dx (N:Nat):wk gd P 127 (wa false p_dx (g_dx N)) :=
 wh fun v K h=>wJ hE hP (wsh N) Tryz.func127 (by kernel_rfl) (body:=b_dx) (by kernel_rfl) (by kernel_rfl) (wn.of (by kernel_rfl) .nil) (loans:=BP.mkL p_dx.store v.2) rfl ((e_dx N v K).trans h)
noncomputable def wtr (N:Nat):CT:=(127,(wa false p_dx (g_dx N)))::wte N
theorem wsl (N:Nat):CTOK gd P (wtr N):=.cons (o_dx N) (wsh N)

noncomputable def i_dy (N:Nat):Fi:={ loans:=0,owns:=true,results:=[.tmp 4,.tmp 5,.tmp 6],rtys:=[4,23,23],blks:=[],regs:=[],masks:=[] }
noncomputable def b_dy:Code:=match Tryz.f157.body with | some c=>c | none=>.skip
noncomputable def p_dy:Pt:=⟨[(.i (.pair .bool (.pair (.sl (.int .i64)) (.pair (.sl (.int .i64)) .unit)))),(.i (.pair .bool (.pair (.sl (.int .i64)) (.pair (.sl (.int .i64)) .unit))))],[]⟩
noncomputable def z_dy (F:type_of% @we7) (v:p_dy.V) (K:KF α):Option α:=F N v.1.1 v.1.2.1 (fun o0_0 o0_1 o0_2=>K (.tuple [(.iv .bool o0_0),(.own 0),(.own 1)]) [(.arr 3 (.int .i64) o0_1 false),(.arr 3 (.int .i64) o0_2 false)])
noncomputable def g_dy (v:p_dy.V) (K:KF α):Option α:=z_dy N @we7 v K
theorem e_dy (v:p_dy.V) (K:KF α):wbB env (wtr N) (i_dy N) Tryz.f157 (SP.mkL p_dy.slots v.1) (BP.mkL p_dy.store v.2) K=g_dy N v K:=Eq.trans (b:=z_dy N @we7.b v K) (by kernel_rfl) (by unfold g_dy; rw [we7.eq])
theorem o_dy (N:Nat):wk gd P 157 (wa false p_dy (g_dy N)) :=
 wh fun v K h=>wJ hE hP (wsl N) Tryz.func157 (by kernel_rfl) (body:=b_dy) (by kernel_rfl) (by kernel_rfl) (wn.of (by kernel_rfl) .nil) (loans:=BP.mkL p_dy.store v.2) rfl ((e_dy N v K).trans h)
noncomputable def ws5 (N:Nat):CT:=(157,(wa false p_dy (g_dy N)))::wtr N
theorem wsj (N:Nat):CTOK gd P (ws5 N):=.cons (o_dy N) (wsl N)

noncomputable def i_dz (N:Nat):Fi:={ loans:=0,owns:=true,results:=[.cell 4 25,.tmp 5],rtys:=[25,4],blks:=[],regs:=[],masks:=[] }
noncomputable def b_dz:Code:=match Tryz.f130.body with | some c=>c | none=>.skip
noncomputable def p_dz:Pt:=⟨[(.i (.pair .bool (.pair (.sl (.int .i64)) (.pair (.sl (.int .i64)) .unit)))),(.i (.pair .bool (.pair (.sl (.int .i64)) (.pair (.sl (.int .i64)) .unit))))],[]⟩
noncomputable def z_dz (F:type_of% @wee) (v:p_dz.V) (K:KF α):Option α:=F N v.1.1 v.1.2.1 (fun o0_0 o0_1 o0_2 o0_3=>K (.tuple [(.agg [(.iv .bool o0_0),(.own 0),(.own 1)]),(.iv .bool o0_1)]) [(.arr 3 (.int .i64) o0_2 false),(.arr 3 (.int .i64) o0_3 false)])
noncomputable def g_dz (v:p_dz.V) (K:KF α):Option α:=z_dz N @wee v K
theorem e_dz (v:p_dz.V) (K:KF α):wbB env (ws5 N) (i_dz N) Tryz.f130 (SP.mkL p_dz.slots v.1) (BP.mkL p_dz.store v.2) K=g_dz N v K:=Eq.trans (b:=z_dz N @wee.b v K) (by kernel_rfl) (by unfold g_dz; rw [wee.eq])
theorem o_dz (N:Nat):wk gd P 130 (wa false p_dz (g_dz N)) :=
 wh fun v K h=>wJ hE hP (wsj N) Tryz.func130 (by kernel_rfl) (body:=b_dz) (by kernel_rfl) (by kernel_rfl) (wn.of (by kernel_rfl) .nil) (loans:=BP.mkL p_dz.store v.2) rfl ((e_dz N v K).trans h)
noncomputable def wtG (N:Nat):CT:=(130,(wa false p_dz (g_dz N)))::ws5 N
theorem wss (N:Nat):CTOK gd P (wtG N):=.cons (o_dz N) (wsj N)

noncomputable def i_dA (N:Nat):Fi:={ loans:=0,owns:=true,results:=[.cell 4 25,.tmp 5],rtys:=[25,4],blks:=[],regs:=[],masks:=[] }
noncomputable def b_dA:Code:=match Tryz.f131.body with | some c=>c | none=>.skip
noncomputable def p_dA:Pt:=⟨[(.i (.pair .bool (.pair (.sl (.int .i64)) (.pair (.sl (.int .i64)) .unit)))),(.i (.pair .bool (.pair (.sl (.int .i64)) (.pair (.sl (.int .i64)) .unit))))],[]⟩
noncomputable def z_dA (F:type_of% @wed) (v:p_dA.V) (K:KF α):Option α:=F N v.1.1 v.1.2.1 (fun o0_0 o0_1 o0_2 o0_3=>K (.tuple [(.agg [(.iv .bool o0_0),(.own 0),(.own 1)]),(.iv .bool o0_1)]) [(.arr 3 (.int .i64) o0_2 false),(.arr 3 (.int .i64) o0_3 false)])
noncomputable def g_dA (v:p_dA.V) (K:KF α):Option α:=z_dA N @wed v K
theorem e_dA (v:p_dA.V) (K:KF α):wbB env (wtG N) (i_dA N) Tryz.f131 (SP.mkL p_dA.slots v.1) (BP.mkL p_dA.store v.2) K=g_dA N v K:=Eq.trans (b:=z_dA N @wed.b v K) (by kernel_rfl) (by unfold g_dA; rw [wed.eq])
theorem o_dA (N:Nat):wk gd P 131 (wa false p_dA (g_dA N)) :=
 wh fun v K h=>wJ hE hP (wss N) Tryz.func131 (by kernel_rfl) (body:=b_dA) (by kernel_rfl) (by kernel_rfl) (wn.of (by kernel_rfl) .nil) (loans:=BP.mkL p_dA.store v.2) rfl ((e_dA N v K).trans h)
noncomputable def wkb (N:Nat):CT:=(131,(wa false p_dA (g_dA N)))::wtG N
theorem wih (N:Nat):CTOK gd P (wkb N):=.cons (o_dA N) (wss N)

noncomputable def p_dB:Pt:=⟨(.p 0 [] 0)::.u::(.p 1 [] 0)::.u::.u::(.p 2 [] 0)::.u::(.p 3 [] 0)::(.i .bool)::ups 97 ([]),[(.box 107 (.i (.pair (.sl (.int .u8)) (.pair (.int .i64) .unit))) false),(.box 25 (.a [(.i .bool),(.o 4),(.o 5)]) false),(.box 25 (.a [(.i .bool),(.o 6),(.o 7)]) false),(.box 25 (.a [(.i .bool),(.o 8),(.o 9)]) false),(.arr 3 (.int .i64) false),(.arr 3 (.int .i64) false),(.arr 3 (.int .i64) false),(.arr 3 (.int .i64) false),(.arr 3 (.int .i64) false),(.arr 3 (.int .i64) false)]⟩
noncomputable def z_dB (F:type_of% @wcJ) (v:p_dB.V) (K:KO α):Option α:=F N v.1.2.2.2.2.2.2.2.2.1 v.2.1 v.2.2.1.1 v.2.2.2.1.1 v.2.2.2.2.1.1 v.2.2.2.2.2.1 v.2.2.2.2.2.2.1 v.2.2.2.2.2.2.2.1 v.2.2.2.2.2.2.2.2.1 v.2.2.2.2.2.2.2.2.2.1 v.2.2.2.2.2.2.2.2.2.2.1 (fun o0_0 o0_1 o0_2 o0_3 o0_4 o0_5 o0_6=>K (.normal ⟨(.lp 0 [] 0)::U::(.lp 1 [] 0)::U::U::(.lp 2 [] 0)::us 100 ([]),[(.box 107 (.iv (.pair (.sl (.int .u8)) (.pair (.int .i64) .unit)) o0_0) false),(.box 25 (.agg [(.iv .bool o0_1),(.own 3),(.own 4)]) false),(.box 25 (.agg [(.iv .bool o0_2),(.own 5),(.own 6)]) false),(.arr 3 (.int .i64) o0_3 false),(.arr 3 (.int .i64) o0_4 false),(.arr 3 (.int .i64) o0_5 false),(.arr 3 (.int .i64) o0_6 false)]⟩))
noncomputable def g_dB (v:p_dB.V) (K:KO α):Option α:=z_dB N @wcJ v K
noncomputable def p_dC:Pt:=⟨(.p 0 [] 0)::.u::(.p 1 [] 0)::.u::.u::(.p 2 [] 0)::.u::.u::.u::(.p 3 [] 0)::(.i .bool)::ups 95 ([]),[(.box 107 (.i (.pair (.sl (.int .u8)) (.pair (.int .i64) .unit))) false),(.box 25 (.a [(.i .bool),(.o 4),(.o 5)]) false),(.box 25 (.a [(.i .bool),(.o 6),(.o 7)]) false),(.box 25 (.a [(.i .bool),(.o 8),(.o 9)]) false),(.arr 3 (.int .i64) false),(.arr 3 (.int .i64) false),(.arr 3 (.int .i64) false),(.arr 3 (.int .i64) false),(.arr 3 (.int .i64) false),(.arr 3 (.int .i64) false)]⟩
noncomputable def z_dC (F:type_of% @wcv) (v:p_dC.V) (K:KO α):Option α:=F N v.1.2.2.2.2.2.2.2.2.2.2.1 v.2.1 v.2.2.1.1 v.2.2.2.1.1 v.2.2.2.2.1.1 v.2.2.2.2.2.1 v.2.2.2.2.2.2.1 v.2.2.2.2.2.2.2.1 v.2.2.2.2.2.2.2.2.1 v.2.2.2.2.2.2.2.2.2.1 v.2.2.2.2.2.2.2.2.2.2.1 (fun o0_0 o0_1 o0_2 o0_3 o0_4 o0_5 o0_6=>K (.normal ⟨(.lp 0 [] 0)::U::(.lp 1 [] 0)::U::U::(.lp 2 [] 0)::us 100 ([]),[(.box 107 (.iv (.pair (.sl (.int .u8)) (.pair (.int .i64) .unit)) o0_0) false),(.box 25 (.agg [(.iv .bool o0_1),(.own 3),(.own 4)]) false),(.box 25 (.agg [(.iv .bool o0_2),(.own 5),(.own 6)]) false),(.arr 3 (.int .i64) o0_3 false),(.arr 3 (.int .i64) o0_4 false),(.arr 3 (.int .i64) o0_5 false),(.arr 3 (.int .i64) o0_6 false)]⟩))
noncomputable def g_dC (v:p_dC.V) (K:KO α):Option α:=z_dC N @wcv v K
noncomputable def p_dD:Pt:=⟨(.p 0 [] 0)::.u::(.p 1 [] 0)::.u::.u::(.p 2 [] 0)::ups 9 ((.p 3 [] 0)::(.i .bool)::ups 89 ([])),[(.box 107 (.i (.pair (.sl (.int .u8)) (.pair (.int .i64) .unit))) false),(.box 25 (.a [(.i .bool),(.o 4),(.o 5)]) false),(.box 25 (.a [(.i .bool),(.o 6),(.o 7)]) false),(.box 25 (.a [(.i .bool),(.o 8),(.o 9)]) false),(.arr 3 (.int .i64) false),(.arr 3 (.int .i64) false),(.arr 3 (.int .i64) false),(.arr 3 (.int .i64) false),(.arr 3 (.int .i64) false),(.arr 3 (.int .i64) false)]⟩
noncomputable def z_dD (F:type_of% @wcw) (v:p_dD.V) (K:KO α):Option α:=F N (nx 9 v.1.2.2.2.2.2.2).2.1 v.2.1 v.2.2.1.1 v.2.2.2.1.1 v.2.2.2.2.1.1 v.2.2.2.2.2.1 v.2.2.2.2.2.2.1 v.2.2.2.2.2.2.2.1 v.2.2.2.2.2.2.2.2.1 v.2.2.2.2.2.2.2.2.2.1 v.2.2.2.2.2.2.2.2.2.2.1 (fun o0_0 o0_1 o0_2 o0_3 o0_4 o0_5 o0_6=>K (.normal ⟨(.lp 0 [] 0)::U::(.lp 1 [] 0)::U::U::(.lp 2 [] 0)::us 100 ([]),[(.box 107 (.iv (.pair (.sl (.int .u8)) (.pair (.int .i64) .unit)) o0_0) false),(.box 25 (.agg [(.iv .bool o0_1),(.own 3),(.own 4)]) false),(.box 25 (.agg [(.iv .bool o0_2),(.own 5),(.own 6)]) false),(.arr 3 (.int .i64) o0_3 false),(.arr 3 (.int .i64) o0_4 false),(.arr 3 (.int .i64) o0_5 false),(.arr 3 (.int .i64) o0_6 false)]⟩))
noncomputable def g_dD (v:p_dD.V) (K:KO α):Option α:=z_dD N @wcw v K
noncomputable def p_dE:Pt:=⟨(.p 0 [] 0)::.u::(.p 1 [] 0)::.u::.u::(.p 2 [] 0)::ups 5 ((.p 3 [] 0)::(.i .bool)::ups 93 ([])),[(.box 107 (.i (.pair (.sl (.int .u8)) (.pair (.int .i64) .unit))) false),(.box 25 (.a [(.i .bool),(.o 4),(.o 5)]) false),(.box 25 (.a [(.i .bool),(.o 6),(.o 7)]) false),(.box 25 (.a [(.i .bool),(.o 8),(.o 9)]) false),(.arr 3 (.int .i64) false),(.arr 3 (.int .i64) false),(.arr 3 (.int .i64) false),(.arr 3 (.int .i64) false),(.arr 3 (.int .i64) false),(.arr 3 (.int .i64) false)]⟩
noncomputable def z_dE (F:type_of% @wb0) (v:p_dE.V) (K:KO α):Option α:=F N (nx 5 v.1.2.2.2.2.2.2).2.1 v.2.1 v.2.2.1.1 v.2.2.2.1.1 v.2.2.2.2.1.1 v.2.2.2.2.2.1 v.2.2.2.2.2.2.1 v.2.2.2.2.2.2.2.1 v.2.2.2.2.2.2.2.2.1 v.2.2.2.2.2.2.2.2.2.1 v.2.2.2.2.2.2.2.2.2.2.1 (fun o0_0 o0_1 o0_2 o0_3 o0_4 o0_5 o0_6=>K (.normal ⟨(.lp 0 [] 0)::U::(.lp 1 [] 0)::U::U::(.lp 2 [] 0)::us 100 ([]),[(.box 107 (.iv (.pair (.sl (.int .u8)) (.pair (.int .i64) .unit)) o0_0) false),(.box 25 (.agg [(.iv .bool o0_1),(.own 3),(.own 4)]) false),(.box 25 (.agg [(.iv .bool o0_2),(.own 5),(.own 6)]) false),(.arr 3 (.int .i64) o0_3 false),(.arr 3 (.int .i64) o0_4 false),(.arr 3 (.int .i64) o0_5 false),(.arr 3 (.int .i64) o0_6 false)]⟩))
noncomputable def g_dE (v:p_dE.V) (K:KO α):Option α:=z_dE N @wb0 v K
noncomputable def p_dF:Pt:=⟨(.p 0 [] 0)::.u::(.p 1 [] 0)::.u::.u::(.p 2 [] 0)::ups 11 ((.p 3 [] 0)::(.i .bool)::ups 87 ([])),[(.box 107 (.i (.pair (.sl (.int .u8)) (.pair (.int .i64) .unit))) false),(.box 25 (.a [(.i .bool),(.o 4),(.o 5)]) false),(.box 25 (.a [(.i .bool),(.o 6),(.o 7)]) false),(.box 25 (.a [(.i .bool),(.o 8),(.o 9)]) false),(.arr 3 (.int .i64) false),(.arr 3 (.int .i64) false),(.arr 3 (.int .i64) false),(.arr 3 (.int .i64) false),(.arr 3 (.int .i64) false),(.arr 3 (.int .i64) false)]⟩
noncomputable def z_dF (F:type_of% @wcr) (v:p_dF.V) (K:KO α):Option α:=F N (nx 11 v.1.2.2.2.2.2.2).2.1 v.2.1 v.2.2.1.1 v.2.2.2.1.1 v.2.2.2.2.1.1 v.2.2.2.2.2.1 v.2.2.2.2.2.2.1 v.2.2.2.2.2.2.2.1 v.2.2.2.2.2.2.2.2.1 v.2.2.2.2.2.2.2.2.2.1 v.2.2.2.2.2.2.2.2.2.2.1 (fun o0_0 o0_1 o0_2 o0_3 o0_4 o0_5 o0_6=>K (.normal ⟨(.lp 0 [] 0)::U::(.lp 1 [] 0)::U::U::(.lp 2 [] 0)::us 100 ([]),[(.box 107 (.iv (.pair (.sl (.int .u8)) (.pair (.int .i64) .unit)) o0_0) false),(.box 25 (.agg [(.iv .bool o0_1),(.own 3),(.own 4)]) false),(.box 25 (.agg [(.iv .bool o0_2),(.own 5),(.own 6)]) false),(.arr 3 (.int .i64) o0_3 false),(.arr 3 (.int .i64) o0_4 false),(.arr 3 (.int .i64) o0_5 false),(.arr 3 (.int .i64) o0_6 false)]⟩))
noncomputable def g_dF (v:p_dF.V) (K:KO α):Option α:=z_dF N @wcr v K
noncomputable def p_dG:Pt:=⟨(.p 0 [] 0)::.u::(.p 1 [] 0)::.u::.u::(.p 2 [] 0)::ups 31 ((.i (.int .i64))::ups 68 ([])),[(.box 107 (.i (.pair (.sl (.int .u8)) (.pair (.int .i64) .unit))) false),(.box 25 (.a [(.i .bool),(.o 3),(.o 4)]) false),(.box 25 (.a [(.i .bool),(.o 5),(.o 6)]) false),(.arr 3 (.int .i64) false),(.arr 3 (.int .i64) false),(.arr 3 (.int .i64) false),(.arr 3 (.int .i64) false)]⟩
noncomputable def z_dG (F:type_of% @wb4) (v:p_dG.V) (K:KO α):Option α:=F N (nx 31 v.1.2.2.2.2.2.2).1 v.2.1 v.2.2.1.1 v.2.2.2.1.1 v.2.2.2.2.1 v.2.2.2.2.2.1 v.2.2.2.2.2.2.1 v.2.2.2.2.2.2.2.1 (fun o0_0 o0_1 o0_2 o0_3 o0_4 o0_5 o0_6=>K (.normal ⟨(.lp 0 [] 0)::U::(.lp 1 [] 0)::U::U::(.lp 2 [] 0)::us 100 ([]),[(.box 107 (.iv (.pair (.sl (.int .u8)) (.pair (.int .i64) .unit)) o0_0) false),(.box 25 (.agg [(.iv .bool o0_1),(.own 3),(.own 4)]) false),(.box 25 (.agg [(.iv .bool o0_2),(.own 5),(.own 6)]) false),(.arr 3 (.int .i64) o0_3 false),(.arr 3 (.int .i64) o0_4 false),(.arr 3 (.int .i64) o0_5 false),(.arr 3 (.int .i64) o0_6 false)]⟩))
noncomputable def g_dG (v:p_dG.V) (K:KO α):Option α:=z_dG N @wb4 v K
noncomputable def p_dH:Pt:=⟨(.p 0 [] 0)::.u::(.p 1 [] 0)::.u::.u::(.p 2 [] 0)::ups 31 ((.i (.int .i64))::ups 68 ([])),[(.box 107 (.i (.pair (.sl (.int .u8)) (.pair (.int .i64) .unit))) false),(.box 25 (.a [(.i .bool),(.o 3),(.o 4)]) false),(.box 25 (.a [(.i .bool),(.o 5),(.o 6)]) false),(.arr 3 (.int .i64) false),(.arr 3 (.int .i64) false),(.arr 3 (.int .i64) false),(.arr 3 (.int .i64) false)]⟩
noncomputable def z_dH (F:type_of% @wb2) (v:p_dH.V) (K:KO α):Option α:=F N (nx 31 v.1.2.2.2.2.2.2).1 v.2.1 v.2.2.1.1 v.2.2.2.1.1 v.2.2.2.2.1 v.2.2.2.2.2.1 v.2.2.2.2.2.2.1 v.2.2.2.2.2.2.2.1 (fun o0_0 o0_1 o0_2 o0_3 o0_4 o0_5 o0_6=>K (.normal ⟨(.lp 0 [] 0)::U::(.lp 1 [] 0)::U::U::(.lp 2 [] 0)::us 100 ([]),[(.box 107 (.iv (.pair (.sl (.int .u8)) (.pair (.int .i64) .unit)) o0_0) false),(.box 25 (.agg [(.iv .bool o0_1),(.own 3),(.own 4)]) false),(.box 25 (.agg [(.iv .bool o0_2),(.own 5),(.own 6)]) false),(.arr 3 (.int .i64) o0_3 false),(.arr 3 (.int .i64) o0_4 false),(.arr 3 (.int .i64) o0_5 false),(.arr 3 (.int .i64) o0_6 false)]⟩))
noncomputable def g_dH (v:p_dH.V) (K:KO α):Option α:=z_dH N @wb2 v K
noncomputable def p_dI:Pt:=⟨(.p 0 [] 0)::.u::(.p 1 [] 0)::.u::.u::(.p 2 [] 0)::ups 31 ((.i (.int .i64))::ups 68 ([])),[(.box 107 (.i (.pair (.sl (.int .u8)) (.pair (.int .i64) .unit))) false),(.box 25 (.a [(.i .bool),(.o 3),(.o 4)]) false),(.box 25 (.a [(.i .bool),(.o 5),(.o 6)]) false),(.arr 3 (.int .i64) false),(.arr 3 (.int .i64) false),(.arr 3 (.int .i64) false),(.arr 3 (.int .i64) false)]⟩
noncomputable def z_dI (F:type_of% @wcp) (v:p_dI.V) (K:KO α):Option α:=F N (nx 31 v.1.2.2.2.2.2.2).1 v.2.1 v.2.2.1.1 v.2.2.2.1.1 v.2.2.2.2.1 v.2.2.2.2.2.1 v.2.2.2.2.2.2.1 v.2.2.2.2.2.2.2.1 (fun o0_0 o0_1 o0_2 o0_3 o0_4 o0_5 o0_6=>K (.normal ⟨(.lp 0 [] 0)::U::(.lp 1 [] 0)::U::U::(.lp 2 [] 0)::us 100 ([]),[(.box 107 (.iv (.pair (.sl (.int .u8)) (.pair (.int .i64) .unit)) o0_0) false),(.box 25 (.agg [(.iv .bool o0_1),(.own 3),(.own 4)]) false),(.box 25 (.agg [(.iv .bool o0_2),(.own 5),(.own 6)]) false),(.arr 3 (.int .i64) o0_3 false),(.arr 3 (.int .i64) o0_4 false),(.arr 3 (.int .i64) o0_5 false),(.arr 3 (.int .i64) o0_6 false)]⟩))
noncomputable def g_dI (v:p_dI.V) (K:KO α):Option α:=z_dI N @wcp v K
noncomputable def p_dJ:Pt:=⟨(.p 0 [] 0)::.u::(.p 1 [] 0)::.u::.u::(.p 2 [] 0)::ups 31 ((.i (.int .i64))::ups 68 ([])),[(.box 107 (.i (.pair (.sl (.int .u8)) (.pair (.int .i64) .unit))) false),(.box 25 (.a [(.i .bool),(.o 3),(.o 4)]) false),(.box 25 (.a [(.i .bool),(.o 5),(.o 6)]) false),(.arr 3 (.int .i64) false),(.arr 3 (.int .i64) false),(.arr 3 (.int .i64) false),(.arr 3 (.int .i64) false)]⟩
noncomputable def z_dJ (F:type_of% @wck) (v:p_dJ.V) (K:KO α):Option α:=F N (nx 31 v.1.2.2.2.2.2.2).1 v.2.1 v.2.2.1.1 v.2.2.2.1.1 v.2.2.2.2.1 v.2.2.2.2.2.1 v.2.2.2.2.2.2.1 v.2.2.2.2.2.2.2.1 (fun o0_0 o0_1 o0_2 o0_3 o0_4 o0_5 o0_6=>K (.normal ⟨(.lp 0 [] 0)::U::(.lp 1 [] 0)::U::U::(.lp 2 [] 0)::us 100 ([]),[(.box 107 (.iv (.pair (.sl (.int .u8)) (.pair (.int .i64) .unit)) o0_0) false),(.box 25 (.agg [(.iv .bool o0_1),(.own 3),(.own 4)]) false),(.box 25 (.agg [(.iv .bool o0_2),(.own 5),(.own 6)]) false),(.arr 3 (.int .i64) o0_3 false),(.arr 3 (.int .i64) o0_4 false),(.arr 3 (.int .i64) o0_5 false),(.arr 3 (.int .i64) o0_6 false)]⟩))
noncomputable def g_dJ (v:p_dJ.V) (K:KO α):Option α:=z_dJ N @wck v K
noncomputable def p_dK:Pt:=⟨(.p 0 [] 0)::.u::(.p 1 [] 0)::.u::.u::(.p 2 [] 0)::ups 100 ([]),[(.box 107 (.i (.pair (.sl (.int .u8)) (.pair (.int .i64) .unit))) false),(.box 25 (.a [(.i .bool),(.o 3),(.o 4)]) false),(.box 25 (.a [(.i .bool),(.o 5),(.o 6)]) false),(.arr 3 (.int .i64) false),(.arr 3 (.int .i64) false),(.arr 3 (.int .i64) false),(.arr 3 (.int .i64) false)]⟩
noncomputable def z_dK (F:type_of% @wcu) (v:p_dK.V) (K:KO α):Option α:=F N v.2.1 v.2.2.1.1 v.2.2.2.1.1 v.2.2.2.2.1 v.2.2.2.2.2.1 v.2.2.2.2.2.2.1 v.2.2.2.2.2.2.2.1 (fun o0_0 o0_1 o0_2 o0_3 o0_4 o0_5 o0_6=>K (.normal ⟨U::U::(.lp 1 [] 0)::U::U::(.lp 2 [] 0)::us 100 ([]),[(.box 107 (.iv (.pair (.sl (.int .u8)) (.pair (.int .i64) .unit)) o0_0) false),(.box 25 (.agg [(.iv .bool o0_1),(.own 3),(.own 4)]) false),(.box 25 (.agg [(.iv .bool o0_2),(.own 5),(.own 6)]) false),(.arr 3 (.int .i64) o0_3 false),(.arr 3 (.int .i64) o0_4 false),(.arr 3 (.int .i64) o0_5 false),(.arr 3 (.int .i64) o0_6 false)]⟩))
noncomputable def g_dK (v:p_dK.V) (K:KO α):Option α:=z_dK N @wcu v K
noncomputable def q_dB (N:Nat):Piece:=(wj 82961 p_dB (g_dB N))
noncomputable def q_dC (N:Nat):Piece:=(wj 1311761 p_dC (g_dC N))
noncomputable def q_dD (N:Nat):Piece:=(wj 5368710161 p_dD (g_dD N))
noncomputable def q_dE (N:Nat):Piece:=(wj 20972561 p_dE (g_dE N))
noncomputable def q_dF (N:Nat):Piece:=(wj 85899346961 p_dF (g_dF N))
noncomputable def q_dG (N:Nat):Piece:=(wj 18889465931478580855825 p_dG (g_dG N))
noncomputable def q_dH (N:Nat):Piece:=(wj 18889465931478580855825 p_dH (g_dH N))
noncomputable def q_dI (N:Nat):Piece:=(wj 18889465931478580855825 p_dI (g_dI N))
noncomputable def q_dJ (N:Nat):Piece:=(wj 18889465931478580855825 p_dJ (g_dJ N))
noncomputable def q_dK (N:Nat):Piece:=(wj 1041 p_dK (g_dK N))
noncomputable def i_dL (N:Nat):Fi:={ loans:=1,owns:=true,results:=[.cell 2 25],rtys:=[25],blks:=[],regs:=[(7,q_dB N),(11,q_dC N),(18,q_dD N),(15,q_dE N),(22,q_dF N),(20,q_dG N),(13,q_dH N),(9,q_dI N),(5,q_dJ N),(24,q_dK N)],masks:=[] }
noncomputable def b_dL:Code:=match Tryz.f94.body with | some c=>c | none=>.skip
noncomputable def n_dB:Code:=(.seq (wq b_dL [1,1,1,1,0,1,0,1,0,1,0]) (wq b_dL [1,1,1,1,0,1,0,1,0,1,1]))
noncomputable def n_dC:Code:=(.seq (wq b_dL [1,1,1,1,0,1,0,1,1,1,0,1,0]) (wq b_dL [1,1,1,1,0,1,0,1,1,1,0,1,1]))
noncomputable def n_dD:Code:=(.seq (wq b_dL [1,1,1,1,0,1,0,1,1,1,1,1,0,1,1,0,1,1,0]) (wq b_dL [1,1,1,1,0,1,0,1,1,1,1,1,0,1,1,0,1,1,1]))
noncomputable def n_dE:Code:=(.seq (wq b_dL [1,1,1,1,0,1,0,1,1,1,1,1,0,1,0]) (wq b_dL [1,1,1,1,0,1,0,1,1,1,1,1,0,1,1]))
noncomputable def n_dF:Code:=(.seq (wq b_dL [1,1,1,1,0,1,0,1,1,1,1,1,1,1,0,1,0]) (wq b_dL [1,1,1,1,0,1,0,1,1,1,1,1,1,1,0,1,1]))
noncomputable def n_dG:Code:=(.seq (wq b_dL [1,1,1,1,0,1,0,1,1,1,1,1,1,0]) (wq b_dL [1,1,1,1,0,1,0,1,1,1,1,1,1,1]))
noncomputable def n_dH:Code:=(.seq (wq b_dL [1,1,1,1,0,1,0,1,1,1,1,0]) (wq b_dL [1,1,1,1,0,1,0,1,1,1,1,1]))
noncomputable def n_dI:Code:=(.seq (wq b_dL [1,1,1,1,0,1,0,1,1,0]) (wq b_dL [1,1,1,1,0,1,0,1,1,1]))
noncomputable def n_dJ:Code:=(.seq (wq b_dL [1,1,1,1,0,1,0,0]) (wq b_dL [1,1,1,1,0,1,0,1]))
noncomputable def n_dK:Code:=(.seq (wq b_dL [1,1,1,1,1,0,0]) (wq b_dL [1,1,1,1,1,0,1]))
theorem e_dB (v:p_dB.V) (K:KO α):wcK env (wkb N) (i_dL N) 1041 n_dB (p_dB.mk' v) K=g_dB N v K:=Eq.trans (b:=z_dB N @wcJ.b v K) (by kernel_rfl) (by unfold g_dB; rw [wcJ.eq])
theorem o_dB (N:Nat):wv gd P (i_dL N) n_dB (q_dB N) :=
 wG hE hP (wih N) (wn.of (by kernel_rfl) .nil) (wn.of (by kernel_rfl) .nil) (e_dB N)
theorem e_dC (v:p_dC.V) (K:KO α):wcK env (wkb N) (i_dL N) 1041 n_dC (p_dC.mk' v) K=g_dC N v K:=Eq.trans (b:=z_dC N @wcv.b v K) (by kernel_rfl) (by unfold g_dC; rw [wcv.eq])
theorem o_dC (N:Nat):wv gd P (i_dL N) n_dC (q_dC N) :=
 wG hE hP (wih N) (wn.of (by kernel_rfl) .nil) (wn.of (by kernel_rfl) .nil) (e_dC N)
theorem e_dD (v:p_dD.V) (K:KO α):wcK env (wkb N) (i_dL N) 1041 n_dD (p_dD.mk' v) K=g_dD N v K:=Eq.trans (b:=z_dD N @wcw.b v K) (by kernel_rfl) (by unfold g_dD; rw [wcw.eq])
theorem o_dD (N:Nat):wv gd P (i_dL N) n_dD (q_dD N) :=
 wG hE hP (wih N) (wn.of (by kernel_rfl) .nil) (wn.of (by kernel_rfl) .nil) (e_dD N)
theorem e_dE (v:p_dE.V) (K:KO α):wcK env (wkb N) (i_dL N) 1041 n_dE (p_dE.mk' v) K=g_dE N v K:=Eq.trans (b:=z_dE N @wb0.b v K) (by kernel_rfl) (by unfold g_dE; rw [wb0.eq])
theorem o_dE (N:Nat):wv gd P (i_dL N) n_dE (q_dE N) :=
 wG hE hP (wih N) (wn.of (by kernel_rfl) .nil) (wn.of (by kernel_rfl) (.cons (o_dD N) .nil)) (e_dE N)
theorem e_dF (v:p_dF.V) (K:KO α):wcK env (wkb N) (i_dL N) 1041 n_dF (p_dF.mk' v) K=g_dF N v K:=Eq.trans (b:=z_dF N @wcr.b v K) (by kernel_rfl) (by unfold g_dF; rw [wcr.eq])
theorem o_dF (N:Nat):wv gd P (i_dL N) n_dF (q_dF N) :=
 wG hE hP (wih N) (wn.of (by kernel_rfl) .nil) (wn.of (by kernel_rfl) .nil) (e_dF N)
theorem e_dG (v:p_dG.V) (K:KO α):wcK env (wkb N) (i_dL N) 1041 n_dG (p_dG.mk' v) K=g_dG N v K:=Eq.trans (b:=z_dG N @wb4.b v K) (by kernel_rfl) (by unfold g_dG; rw [wb4.eq])
theorem o_dG (N:Nat):wv gd P (i_dL N) n_dG (q_dG N) :=
 wG hE hP (wih N) (wn.of (by kernel_rfl) .nil) (wn.of (by kernel_rfl) (.cons (o_dF N) .nil)) (e_dG N)
theorem e_dH (v:p_dH.V) (K:KO α):wcK env (wkb N) (i_dL N) 1041 n_dH (p_dH.mk' v) K=g_dH N v K:=Eq.trans (b:=z_dH N @wb2.b v K) (by kernel_rfl) (by unfold g_dH; rw [wb2.eq])
theorem o_dH (N:Nat):wv gd P (i_dL N) n_dH (q_dH N) :=
 wG hE hP (wih N) (wn.of (by kernel_rfl) .nil) (wn.of (by kernel_rfl) (.cons (o_dE N) (.cons (o_dG N) .nil))) (e_dH N)
theorem e_dI (v:p_dI.V) (K:KO α):wcK env (wkb N) (i_dL N) 1041 n_dI (p_dI.mk' v) K=g_dI N v K:=Eq.trans (b:=z_dI N @wcp.b v K) (by kernel_rfl) (by unfold g_dI; rw [wcp.eq])
theorem o_dI (N:Nat):wv gd P (i_dL N) n_dI (q_dI N) :=
 wG hE hP (wih N) (wn.of (by kernel_rfl) .nil) (wn.of (by kernel_rfl) (.cons (o_dC N) (.cons (o_dH N) .nil))) (e_dI N)
theorem e_dJ (v:p_dJ.V) (K:KO α):wcK env (wkb N) (i_dL N) 1041 n_dJ (p_dJ.mk' v) K=g_dJ N v K:=Eq.trans (b:=z_dJ N @wck.b v K) (by kernel_rfl) (by unfold g_dJ; rw [wck.eq])
theorem o_dJ (N:Nat):wv gd P (i_dL N) n_dJ (q_dJ N) :=
 wG hE hP (wih N) (wn.of (by kernel_rfl) .nil) (wn.of (by kernel_rfl) (.cons (o_dB N) (.cons (o_dI N) .nil))) (e_dJ N)
theorem e_dK (v:p_dK.V) (K:KO α):wcK env (wkb N) (i_dL N) 1040 n_dK (p_dK.mk' v) K=g_dK N v K:=Eq.trans (b:=z_dK N @wcu.b v K) (by kernel_rfl) (by unfold g_dK; rw [wcu.eq])
theorem o_dK (N:Nat):wv gd P (i_dL N) n_dK (q_dK N) :=
 wG hE hP (wih N) (wn.of (by kernel_rfl) .nil) (wn.of (by kernel_rfl) .nil) (e_dK N)
noncomputable def p_dL:Pt:=⟨[(.p 0 [] 0)],[(.box 107 (.i (.pair (.sl (.int .u8)) (.pair (.int .i64) .unit))) false)]⟩
noncomputable def z_dL (F:type_of% @wdb) (v:p_dL.V) (K:KF α):Option α:=F N v.2.1 (fun o0_0 o0_1 o0_2 o0_3=>K (.agg [(.iv .bool o0_0),(.own 1),(.own 2)]) [(.box 107 (.iv (.pair (.sl (.int .u8)) (.pair (.int .i64) .unit)) o0_1) false),(.arr 3 (.int .i64) o0_2 false),(.arr 3 (.int .i64) o0_3 false)])
noncomputable def g_dL (v:p_dL.V) (K:KF α):Option α:=z_dL N @wdb v K
theorem e_dL (v:p_dL.V) (K:KF α):wbB env (wkb N) (i_dL N) Tryz.f94 (SP.mkL p_dL.slots v.1) (BP.mkL p_dL.store v.2) K=g_dL N v K:=Eq.trans (b:=z_dL N @wdb.b v K) (by kernel_rfl) (by unfold g_dL; rw [wdb.eq])
theorem o_dL (N:Nat):wk gd P 94 (wa false p_dL (g_dL N)) :=
 wh fun v K h=>wJ hE hP (wih N) Tryz.func94 (by kernel_rfl) (body:=b_dL) (by kernel_rfl) (by kernel_rfl) (wn.of (by kernel_rfl) (.cons (o_dJ N) (.cons (o_dK N) .nil))) (loans:=BP.mkL p_dL.store v.2) rfl ((e_dL N v K).trans h)
noncomputable def wsP (N:Nat):CT:=(94,(wa false p_dL (g_dL N)))::wkb N
theorem wsm (N:Nat):CTOK gd P (wsP N):=.cons (o_dL N) (wih N)

noncomputable def i_dM (N:Nat):Fi:={ loans:=0,owns:=true,results:=[.tmp 2,.cell 3 25],rtys:=[3,25],blks:=[],regs:=[],masks:=[] }
noncomputable def b_dM:Code:=match Tryz.f55.body with | some c=>c | none=>.skip
noncomputable def p_dM:Pt:=⟨[(.i (.sl (.int .u8)))],[]⟩
noncomputable def z_dM (F:type_of% @wez) (v:p_dM.V) (K:KF α):Option α:=F N v.1.1 (fun o0_0 o0_1 o0_2 o0_3=>K (.tuple [(.iv (.int .i64) o0_0),(.agg [(.iv .bool o0_1),(.own 0),(.own 1)])]) [(.arr 3 (.int .i64) o0_2 false),(.arr 3 (.int .i64) o0_3 false)])
noncomputable def g_dM (v:p_dM.V) (K:KF α):Option α:=z_dM N @wez v K
theorem e_dM (v:p_dM.V) (K:KF α):wbB env (wsP N) (i_dM N) Tryz.f55 (SP.mkL p_dM.slots v.1) (BP.mkL p_dM.store v.2) K=g_dM N v K:=Eq.trans (b:=z_dM N @wez.b v K) (by kernel_rfl) (by unfold g_dM; rw [wez.eq])
theorem o_dM (N:Nat):wk gd P 55 (wa false p_dM (g_dM N)) :=
 wh fun v K h=>wJ hE hP (wsm N) Tryz.func55 (by kernel_rfl) (body:=b_dM) (by kernel_rfl) (by kernel_rfl) (wn.of (by kernel_rfl) .nil) (loans:=BP.mkL p_dM.store v.2) rfl ((e_dM N v K).trans h)
noncomputable def ws9 (N:Nat):CT:=(55,(wa false p_dM (g_dM N)))::wsP N
theorem wsp (N:Nat):CTOK gd P (ws9 N):=.cons (o_dM N) (wsm N)

noncomputable def i_dN (N:Nat):Fi:={ loans:=0,owns:=true,results:=[.tmp 2,.cell 3 25],rtys:=[3,25],blks:=[],regs:=[],masks:=[] }
noncomputable def b_dN:Code:=match Tryz.f19.body with | some c=>c | none=>.skip
noncomputable def p_dN:Pt:=⟨[(.i (.sl (.int .u8)))],[]⟩
noncomputable def z_dN (F:type_of% @wcf) (v:p_dN.V) (K:KF α):Option α:=F N v.1.1 (fun o0_0 o0_1 o0_2 o0_3=>K (.tuple [(.iv (.int .i64) o0_0),(.agg [(.iv .bool o0_1),(.own 0),(.own 1)])]) [(.arr 3 (.int .i64) o0_2 false),(.arr 3 (.int .i64) o0_3 false)])
noncomputable def g_dN (v:p_dN.V) (K:KF α):Option α:=z_dN N @wcf v K
theorem e_dN (v:p_dN.V) (K:KF α):wbB env (ws9 N) (i_dN N) Tryz.f19 (SP.mkL p_dN.slots v.1) (BP.mkL p_dN.store v.2) K=g_dN N v K:=Eq.trans (b:=z_dN N @wcf.b v K) (by kernel_rfl) (by unfold g_dN; rw [wcf.eq])
theorem o_dN (N:Nat):wk gd P 19 (wa false p_dN (g_dN N)) :=
 wh fun v K h=>wJ hE hP (wsp N) Tryz.func19 (by kernel_rfl) (body:=b_dN) (by kernel_rfl) (by kernel_rfl) (wn.of (by kernel_rfl) .nil) (loans:=BP.mkL p_dN.store v.2) rfl ((e_dN N v K).trans h)
noncomputable def wtq (N:Nat):CT:=(19,(wa false p_dN (g_dN N)))::ws9 N
theorem wst (N:Nat):CTOK gd P (wtq N):=.cons (o_dN N) (wsp N)

noncomputable def i_dO (N:Nat):Fi:={ loans:=0,owns:=true,results:=[.tmp 3],rtys:=[4],blks:=[],regs:=[],masks:=[] }
noncomputable def b_dO:Code:=match Tryz.f101.body with | some c=>c | none=>.skip
noncomputable def p_dO:Pt:=⟨[(.i (.pair (.int .i64) (.pair (.int .i64) .unit))),(.q (.int .i64))],[]⟩
noncomputable def z_dO (F:type_of% @weg) (v:p_dO.V) (K:KF α):Option α:=F N v.1.1 v.1.2.1 (fun o0_0=>K (.iv .bool o0_0) [])
noncomputable def g_dO (v:p_dO.V) (K:KF α):Option α:=z_dO N @weg v K
theorem e_dO (v:p_dO.V) (K:KF α):wbB env (wtq N) (i_dO N) Tryz.f101 (SP.mkL p_dO.slots v.1) (BP.mkL p_dO.store v.2) K=g_dO N v K:=Eq.trans (b:=z_dO N @weg.b v K) (by kernel_rfl) (by unfold g_dO; rw [weg.eq])
theorem o_dO (N:Nat):wk gd P 101 (wa false p_dO (g_dO N)) :=
 wh fun v K h=>wJ hE hP (wst N) Tryz.func101 (by kernel_rfl) (body:=b_dO) (by kernel_rfl) (by kernel_rfl) (wn.of (by kernel_rfl) .nil) (loans:=BP.mkL p_dO.store v.2) rfl ((e_dO N v K).trans h)
noncomputable def wrv (N:Nat):CT:=(101,(wa false p_dO (g_dO N)))::wtq N
theorem wqr (N:Nat):CTOK gd P (wrv N):=.cons (o_dO N) (wst N)

noncomputable def p_dP:Pt:=⟨(.i (.sl (.pair (.int .i64) (.pair (.int .i64) .unit))))::(.f 101 [(.q (.int .i64))])::ups 5 ((.i (.int .i64))::(.i (.int .i64))::ups 10 ([])),[]⟩
noncomputable def z_dP (F:type_of% (@wc α 0 0)) (v:p_dP.V) (K:KO α):Option α:=F v.1.1 v.1.2.1.1 (nx 5 v.1.2.2).1 (nx 5 v.1.2.2).2.1 (fun o0_0=>K (.ret (.iv (.int .i64) o0_0) [])) (K (.normal ⟨us 19 ([]),[]⟩))
noncomputable def g_dP (n:Nat) (v:p_dP.V) (K:KO α):Option α:=z_dP (wc N n) v K
noncomputable def q_dP (N:Nat):Piece:=(wj 81925 p_dP (g_dP N N))
noncomputable def i_dQ (N:Nat):Fi:={ loans:=0,owns:=true,results:=[.tmp 4],rtys:=[3],blks:=[(0,q_dP N)],regs:=[],masks:=[(0,0)] }
noncomputable def b_dQ:Code:=match Tryz.f135.body with | some c=>c | none=>.skip
noncomputable def n_dP:Code:=(.block 0 (.loop (wq b_dQ [1,0,1,0,0])))
theorem e_dP (n:Nat) (v:p_dP.V) (K:KO α):wbe env (wrv N) (i_dQ N) 81925 (wj 81925 p_dP (g_dP N n)).run n_dP (p_dP.mk' v) K=g_dP N (n + 1) v K:=Eq.trans (b:=z_dP (fun x0 x1 x2 x3 k0 k1=>wS N (fun y0 y1 y2 y3=>wc N n y0 y1 y2 y3 k0 k1) k0 k1 x0 x1 x2 x3) v K) (by kernel_rfl) (by unfold g_dP z_dP; rw [wc.succ])
theorem o_dP (N:Nat):wv gd P (i_dQ N) n_dP (q_dP N) :=
 wI hE hP (wqr N) (wn.of (by kernel_rfl) .nil) (fun n {_}=>g_dP N n) (fun _ _=>wc.zero ..) (fun n {_} v K=>e_dP N n v K) N
noncomputable def p_dQ:Pt:=⟨[(.i (.sl (.pair (.int .i64) (.pair (.int .i64) .unit)))),(.f 101 [(.q (.int .i64))])],[]⟩
noncomputable def z_dQ (F:type_of% @wl) (v:p_dQ.V) (K:KF α):Option α:=F N v.1.1 v.1.2.1.1 (fun o0_0=>K (.iv (.int .i64) o0_0) [])
noncomputable def g_dQ (v:p_dQ.V) (K:KF α):Option α:=z_dQ N @wl v K
theorem e_dQ (v:p_dQ.V) (K:KF α):wbB env (wrv N) (i_dQ N) Tryz.f135 (SP.mkL p_dQ.slots v.1) (BP.mkL p_dQ.store v.2) K=g_dQ N v K:=Eq.trans (b:=z_dQ N @wl.b v K) (by kernel_rfl) (by unfold g_dQ; rw [wl.eq])
theorem o_dQ (N:Nat):wk gd P 135 (wa false p_dQ (g_dQ N)) :=
 wh fun v K h=>wJ hE hP (wqr N) Tryz.func135 (by kernel_rfl) (body:=b_dQ) (by kernel_rfl) (by kernel_rfl) (wn.of (by kernel_rfl) (.cons (o_dP N) .nil)) (loans:=BP.mkL p_dQ.store v.2) rfl ((e_dQ N v K).trans h)
noncomputable def wtd (N:Nat):CT:=(135,(wa false p_dQ (g_dQ N)))::wrv N
theorem wsq (N:Nat):CTOK gd P (wtd N):=.cons (o_dQ N) (wqr N)

noncomputable def i_dR (N:Nat):Fi:={ loans:=0,owns:=true,results:=[.tmp 4],rtys:=[4],blks:=[],regs:=[],masks:=[] }
noncomputable def b_dR:Code:=match Tryz.f100.body with | some c=>c | none=>.skip
noncomputable def p_dR:Pt:=⟨[(.i (.sl (.pair (.int .i64) (.pair (.int .i64) .unit)))),(.f 101 [(.q (.int .i64))])],[]⟩
noncomputable def z_dR (F:type_of% @wi) (v:p_dR.V) (K:KF α):Option α:=F N v.1.1 v.1.2.1.1 (fun o0_0=>K (.iv .bool o0_0) [])
noncomputable def g_dR (v:p_dR.V) (K:KF α):Option α:=z_dR N @wi v K
theorem e_dR (v:p_dR.V) (K:KF α):wbB env (wtd N) (i_dR N) Tryz.f100 (SP.mkL p_dR.slots v.1) (BP.mkL p_dR.store v.2) K=g_dR N v K:=Eq.trans (b:=z_dR N @wi.b v K) (by kernel_rfl) (by unfold g_dR; rw [wi.eq])
theorem o_dR (N:Nat):wk gd P 100 (wa false p_dR (g_dR N)) :=
 wh fun v K h=>wJ hE hP (wsq N) Tryz.func100 (by kernel_rfl) (body:=b_dR) (by kernel_rfl) (by kernel_rfl) (wn.of (by kernel_rfl) .nil) (loans:=BP.mkL p_dR.store v.2) rfl ((e_dR N v K).trans h)
noncomputable def wsA (N:Nat):CT:=(100,(wa false p_dR (g_dR N)))::wtd N
theorem wr6 (N:Nat):CTOK gd P (wsA N):=.cons (o_dR N) (wsq N)

noncomputable def i_dS (N:Nat):Fi:={ loans:=0,owns:=true,results:=[.tmp 4],rtys:=[4],blks:=[],regs:=[],masks:=[] }
noncomputable def b_dS:Code:=match Tryz.f60.body with | some c=>c | none=>.skip
noncomputable def p_dS:Pt:=⟨[(.i (.int .i64)),(.i (.pair (.sl (.pair (.int .i64) (.pair (.int .i64) .unit))) .unit))],[]⟩
noncomputable def z_dS (F:type_of% @wfb) (v:p_dS.V) (K:KF α):Option α:=F N v.1.1 v.1.2.1 (fun o0_0=>K (.iv .bool o0_0) [])
noncomputable def g_dS (v:p_dS.V) (K:KF α):Option α:=z_dS N @wfb v K
theorem e_dS (v:p_dS.V) (K:KF α):wbB env (wsA N) (i_dS N) Tryz.f60 (SP.mkL p_dS.slots v.1) (BP.mkL p_dS.store v.2) K=g_dS N v K:=Eq.trans (b:=z_dS N @wfb.b v K) (by kernel_rfl) (by unfold g_dS; rw [wfb.eq])
theorem o_dS (N:Nat):wk gd P 60 (wa false p_dS (g_dS N)) :=
 wh fun v K h=>wJ hE hP (wr6 N) Tryz.func60 (by kernel_rfl) (body:=b_dS) (by kernel_rfl) (by kernel_rfl) (wn.of (by kernel_rfl) .nil) (loans:=BP.mkL p_dS.store v.2) rfl ((e_dS N v K).trans h)
noncomputable def wry (N:Nat):CT:=(60,(wa false p_dS (g_dS N)))::wsA N
theorem wqc (N:Nat):CTOK gd P (wry N):=.cons (o_dS N) (wr6 N)

noncomputable def p_dT:Pt:=⟨(.i (.int .i64))::.u::(.i (.sl (.pair .bool (.pair (.sl (.int .i64)) (.pair (.sl (.int .i64)) .unit)))))::ups 19 ((.i (.sl (.pair (.int .i64) (.pair (.int .i64) .unit))))::(.i (.int .i64))::(.i (.int .i64))::ups 13 ([])),[]⟩
noncomputable def z_dT (F:type_of% (@wbO α 0 0)) (v:p_dT.V) (K:KO α):Option α:=F v.1.1 v.1.2.2.1 (nx 19 v.1.2.2.2).1 (nx 19 v.1.2.2.2).2.1 (nx 19 v.1.2.2.2).2.2.1 (fun o0_0=>K (.ret (.iv .bool o0_0) [])) (K (.normal ⟨us 38 ([]),[]⟩))
noncomputable def g_dT (n:Nat) (v:p_dT.V) (K:KO α):Option α:=z_dT (wbO N n) v K
noncomputable def q_dT (N:Nat):Piece:=(wj 369435906932753 p_dT (g_dT N N))
noncomputable def i_dU (N:Nat):Fi:={ loans:=0,owns:=true,results:=[.tmp 6],rtys:=[4],blks:=[(0,q_dT N)],regs:=[],masks:=[(0,0)] }
noncomputable def b_dU:Code:=match Tryz.f22.body with | some c=>c | none=>.skip
noncomputable def n_dT:Code:=(.block 0 (.loop (wq b_dU [1,1,0,1,0,0])))
theorem e_dT (n:Nat) (v:p_dT.V) (K:KO α):wbe env (wry N) (i_dU N) 369435906932753 (wj 369435906932753 p_dT (g_dT N n)).run n_dT (p_dT.mk' v) K=g_dT N (n + 1) v K:=Eq.trans (b:=z_dT (fun x0 x1 x2 x3 x4 k0 k1=>wf0 N (fun y0 y1 y2 y3 y4=>wbO N n y0 y1 y2 y3 y4 k0 k1) k0 k1 x0 x1 x2 x3 x4) v K) (by kernel_rfl) (by unfold g_dT z_dT; rw [wbO.succ])
theorem o_dT (N:Nat):wv gd P (i_dU N) n_dT (q_dT N) :=
 wI hE hP (wqc N) (wn.of (by kernel_rfl) .nil) (fun n {_}=>g_dT N n) (fun _ _=>wbO.zero ..) (fun n {_} v K=>e_dT N n v K) N
noncomputable def p_dU:Pt:=⟨[(.i (.int .i64)),(.i (.pair (.sl (.pair (.int .i64) (.pair (.int .i64) .unit))) .unit)),(.i (.sl (.pair .bool (.pair (.sl (.int .i64)) (.pair (.sl (.int .i64)) .unit)))))],[]⟩
noncomputable def z_dU (F:type_of% @wdV) (v:p_dU.V) (K:KF α):Option α:=F N v.1.1 v.1.2.1 v.1.2.2.1 (fun o0_0=>K (.iv .bool o0_0) [])
noncomputable def g_dU (v:p_dU.V) (K:KF α):Option α:=z_dU N @wdV v K
theorem e_dU (v:p_dU.V) (K:KF α):wbB env (wry N) (i_dU N) Tryz.f22 (SP.mkL p_dU.slots v.1) (BP.mkL p_dU.store v.2) K=g_dU N v K:=Eq.trans (b:=z_dU N @wdV.b v K) (by kernel_rfl) (by unfold g_dU; rw [wdV.eq])
theorem o_dU (N:Nat):wk gd P 22 (wa false p_dU (g_dU N)) :=
 wh fun v K h=>wJ hE hP (wqc N) Tryz.func22 (by kernel_rfl) (body:=b_dU) (by kernel_rfl) (by kernel_rfl) (wn.of (by kernel_rfl) (.cons (o_dT N) .nil)) (loans:=BP.mkL p_dU.store v.2) rfl ((e_dU N v K).trans h)
noncomputable def wrH (N:Nat):CT:=(22,(wa false p_dU (g_dU N)))::wry N
theorem wpO (N:Nat):CTOK gd P (wrH N):=.cons (o_dU N) (wqc N)

noncomputable def p_dV:Pt:=⟨.u::(.i (.sl (.int .u8)))::.u::.u::.u::(.i (.int .i64))::(.i .str)::(.p 0 [] 0)::(.i .bool)::ups 125 ([]),[(.box 35 (.i (.pair (.int .i64) (.pair (.int .i64) .unit))) false)]⟩
noncomputable def z_dV (F:type_of% @wcE) (v:p_dV.V) (K:KO α):Option α:=F N v.1.2.1 v.1.2.2.2.2.2.1 v.1.2.2.2.2.2.2.1 v.1.2.2.2.2.2.2.2.2.1 v.2.1 (fun o0_0=>K (.ret (.iv .bool o0_0) [])) (fun o1_0=>K (.normal ⟨U::(.iv (.sl (.int .u8)) o1_0)::us 132 ([]),[]⟩))
noncomputable def g_dV (v:p_dV.V) (K:KO α):Option α:=z_dV N @wcE v K
noncomputable def q_dV (N:Nat):Piece:=(wj 87044 p_dV (g_dV N))
noncomputable def i_dW (N:Nat):Fi:={ loans:=0,owns:=true,results:=[.tmp 4],rtys:=[4],blks:=[],regs:=[(8,q_dV N)],masks:=[] }
noncomputable def b_dW:Code:=match Tryz.f5.body with | some c=>c | none=>.skip
noncomputable def n_dV:Code:=(.seq (wq b_dW [1,1,1,1,1,0,0]) (wq b_dW [1,1,1,1,1,0,1]))
theorem e_dV (v:p_dV.V) (K:KO α):wcK env (wrH N) (i_dW N) 4 n_dV (p_dV.mk' v) K=g_dV N v K:=Eq.trans (b:=z_dV N @wcE.b v K) (by kernel_rfl) (by unfold g_dV; rw [wcE.eq])
theorem o_dV (N:Nat):wv gd P (i_dW N) n_dV (q_dV N) :=
 wG hE hP (wpO N) (wn.of (by kernel_rfl) .nil) (wn.of (by kernel_rfl) .nil) (e_dV N)
noncomputable def plaws_FnPairDec:Pt:=⟨[(.i (.sl (.int .u8))),(.i (.sl (.int .u8)))],[]⟩
noncomputable def z_dW (F:type_of% @laws_FnPairDec) (v:plaws_FnPairDec.V) (K:KF α):Option α:=F N v.1.1 v.1.2.1 (fun o0_0=>K (.iv .bool o0_0) [])
noncomputable def glaws_FnPairDec (v:plaws_FnPairDec.V) (K:KF α):Option α:=z_dW N @laws_FnPairDec v K
theorem e_dW (v:plaws_FnPairDec.V) (K:KF α):wbB env (wrH N) (i_dW N) Tryz.f5 (SP.mkL plaws_FnPairDec.slots v.1) (BP.mkL plaws_FnPairDec.store v.2) K=glaws_FnPairDec N v K:=Eq.trans (b:=z_dW N @laws_FnPairDec.b v K) (by kernel_rfl) (by unfold glaws_FnPairDec; rw [laws_FnPairDec.eq])
theorem olaws_FnPairDec (N:Nat):wk gd P 5 (wa false plaws_FnPairDec (glaws_FnPairDec N)) :=
 wh fun v K h=>wJ hE hP (wpO N) Tryz.func5 (by kernel_rfl) (body:=b_dW) (by kernel_rfl) (by kernel_rfl) (wn.of (by kernel_rfl) (.cons (o_dV N) .nil)) (loans:=BP.mkL plaws_FnPairDec.store v.2) rfl ((e_dW N v K).trans h)
noncomputable def wvb (N:Nat):CT:=(5,(wa false plaws_FnPairDec (glaws_FnPairDec N)))::wrH N
theorem wvi (N:Nat):CTOK gd P (wvb N):=.cons (olaws_FnPairDec N) (wpO N)

end
end
end Go.Proofs.YtnhbcpmmdblkjaaGreatDoorAm
