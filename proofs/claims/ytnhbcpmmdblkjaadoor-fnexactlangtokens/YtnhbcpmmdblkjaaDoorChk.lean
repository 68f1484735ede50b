/-
 The functions are what the program computes. Printed by amp.py.
-/
import Derived.Test.YtnhbcpmmdblkjaaDoorFns
import Derived.Test.YtnhbcpmmdblkjaaDoorProg
namespace Go.Proofs.YtnhbcpmmdblkjaaDoorAm
open Go
noncomputable section
set_option linter.unusedVariables false
set_option linter.unusedSimpArgs false
noncomputable abbrev P:Program:=Go.Proofs.Tryd.prog
noncomputable def ups:Nat→List SP→List SP
 | 0,l=>l
 | n + 1,l=>.u::ups n l
noncomputable def nx (n:Nat) {l:List SP} (v:SP.VL (ups n l)):SP.VL l:=match n,v with
 | 0,v=>v
 | n + 1,v=>nx n v.2
abbrev KF (α:Type):Type:=HV→List Blk→Option α
abbrev KO (α:Type):Type:=Out→Option α
abbrev U:HV:=.undef
def env:Env where
 sl:=[(22,44,(.pair (.int .i64) (.pair .str .unit))),(69,5,(.int .u8))]
 ty:=[(3,(.int .i64)),(5,(.int .u8)),(9,.str),(22,(.sl (.pair (.int .i64) (.pair .str .unit)))),(44,(.pair (.int .i64) (.pair .str .unit))),(69,(.sl (.int .u8)))]
 lay:=[(3,1,false),(9,1,false),(44,2,true)]
 fo:=[(44,[0,1])]
 lim:=[(44,5864062014805)]
 cut:=[]
 ifs:=[89]
 zs:=[]
 eqs:=[]
theorem hE:EnvOK P env:=envB_ok (by kernel_rfl) (eqs_ok (by kernel_rfl))
theorem hP:P.follows .mixedOrders=true:=by kernel_rfl

section
variable (N:Nat) {α:Type}
open Go.Shelf
def lays219_ren:Go.Shelf.Ren:=⟨fun | 219=>94 | 217=>96 | 225=>112 | 224=>113 | 267=>114 | 266=>115 | 314=>125 | n=>n,fun | 9=>9 | 3=>3 | 4=>4 | 5=>5 | 46=>80 | 146=>105 | 51=>103 | n=>n,fun | 1=>0 | n=>n⟩
theorem lays219:Go.Proofs.Lays.n219 Tryd.prog lays219_ren:={
 mixed:=by kernel_rfl
 f217:=Tryd.func96.trans (congrArg some (by kernel_rfl))
 f219:=Tryd.func94.trans (congrArg some (by kernel_rfl))
 f224:=Tryd.func113.trans (congrArg some (by kernel_rfl))
 f225:=Tryd.func112.trans (congrArg some (by kernel_rfl))
 f266:=Tryd.func115.trans (congrArg some (by kernel_rfl))
 f267:=Tryd.func114.trans (congrArg some (by kernel_rfl))
 f314:=Tryd.func125.trans (congrArg some (by kernel_rfl))
 t3:=Tryd.underlying3
 a3:=Tryd.isAgg3
 z3:=Tryd.sizeOf3
 v3:=Tryd.zeroValue3
 t4:=Tryd.underlying4
 a4:=Tryd.isAgg4
 z4:=Tryd.sizeOf4
 v4:=Tryd.zeroValue4
 t5:=Tryd.underlying5
 a5:=Tryd.isAgg5
 z5:=Tryd.sizeOf5
 v5:=Tryd.zeroValue5
 t9:=Tryd.underlying9
 a9:=Tryd.isAgg9
 z9:=Tryd.sizeOf9
 v9:=Tryd.zeroValue9
 t46:=Tryd.underlying80
 a46:=Tryd.isAgg80
 z46:=Tryd.sizeOf80
 v46:=Tryd.zeroValue80
 t51:=Tryd.underlying103
 a51:=Tryd.isAgg103
 z51:=Tryd.sizeOf103
 v51:=Tryd.zeroValue103
 t146:=Tryd.underlying105
 a146:=Tryd.isAgg105
 z146:=Tryd.sizeOf105
 v146:=Tryd.zeroValue105
 g1:=by kernel_rfl }
def lays172_ren:Go.Shelf.Ren:=⟨fun | 172=>117 | 244=>126 | 245=>127 | 247=>133 | 279=>134 | 280=>135 | 281=>136 | 282=>137 | 287=>142 | 316=>143 | 171=>83 | 205=>144 | 321=>147 | 322=>148 | 243=>104 | 246=>121 | 283=>129 | 284=>130 | 285=>131 | 286=>132 | 129=>103 | 317=>138 | 318=>139 | 319=>140 | 320=>141 | 337=>145 | 338=>146 | n=>n,fun | 9=>9 | 3=>3 | 75=>89 | 76=>90 | 4=>4 | 5=>5 | 167=>125 | 37=>69 | 0=>0 | 85=>126 | 2=>2 | 168=>128 | 53=>75 | 175=>134 | 46=>80 | 210=>137 | 127=>109 | 145=>142 | 143=>140 | 21=>21 | 171=>121 | 173=>123 | 212=>132 | 51=>103 | 20=>20 | 213=>133 | 232=>143 | 233=>144 | 80=>93 | n=>n,fun | 15=>2 | 16=>3 | 17=>1 | 18=>4 | 19=>5 | n=>n⟩
theorem lays172:Go.Proofs.LaysC.n172 Tryd.prog lays172_ren:={
 mixed:=by kernel_rfl
 f129:=Tryd.func103.trans (congrArg some (by kernel_rfl))
 f171:=Tryd.func83.trans (congrArg some (by kernel_rfl))
 f172:=Tryd.func117.trans (congrArg some (by kernel_rfl))
 f205:=Tryd.func144.trans (congrArg some (by kernel_rfl))
 f243:=Tryd.func104.trans (congrArg some (by kernel_rfl))
 f244:=Tryd.func126.trans (congrArg some (by kernel_rfl))
 f245:=Tryd.func127.trans (congrArg some (by kernel_rfl))
 f246:=Tryd.func121.trans (congrArg some (by kernel_rfl))
 f247:=Tryd.func133.trans (congrArg some (by kernel_rfl))
 f279:=Tryd.func134.trans (congrArg some (by kernel_rfl))
 f280:=Tryd.func135.trans (congrArg some (by kernel_rfl))
 f281:=Tryd.func136.trans (congrArg some (by kernel_rfl))
 f282:=Tryd.func137.trans (congrArg some (by kernel_rfl))
 f283:=Tryd.func129.trans (congrArg some (by kernel_rfl))
 f284:=Tryd.func130.trans (congrArg some (by kernel_rfl))
 f285:=Tryd.func131.trans (congrArg some (by kernel_rfl))
 f286:=Tryd.func132.trans (congrArg some (by kernel_rfl))
 f287:=Tryd.func142.trans (congrArg some (by kernel_rfl))
 f316:=Tryd.func143.trans (congrArg some (by kernel_rfl))
 f317:=Tryd.func138.trans (congrArg some (by kernel_rfl))
 f318:=Tryd.func139.trans (congrArg some (by kernel_rfl))
 f319:=Tryd.func140.trans (congrArg some (by kernel_rfl))
 f320:=Tryd.func141.trans (congrArg some (by kernel_rfl))
 f321:=Tryd.func147.trans (congrArg some (by kernel_rfl))
 f322:=Tryd.func148.trans (congrArg some (by kernel_rfl))
 f337:=Tryd.func145.trans (congrArg some (by kernel_rfl))
 f338:=Tryd.func146.trans (congrArg some (by kernel_rfl))
 t0:=Tryd.underlying0
 a0:=Tryd.isAgg0
 z0:=Tryd.sizeOf0
 v0:=Tryd.zeroValue0
 t2:=Tryd.underlying2
 a2:=Tryd.isAgg2
 z2:=Tryd.sizeOf2
 v2:=Tryd.zeroValue2
 t3:=Tryd.underlying3
 a3:=Tryd.isAgg3
 z3:=Tryd.sizeOf3
 v3:=Tryd.zeroValue3
 t4:=Tryd.underlying4
 a4:=Tryd.isAgg4
 z4:=Tryd.sizeOf4
 v4:=Tryd.zeroValue4
 t5:=Tryd.underlying5
 a5:=Tryd.isAgg5
 z5:=Tryd.sizeOf5
 v5:=Tryd.zeroValue5
 t9:=Tryd.underlying9
 a9:=Tryd.isAgg9
 z9:=Tryd.sizeOf9
 v9:=Tryd.zeroValue9
 t20:=Tryd.underlying20
 a20:=Tryd.isAgg20
 z20:=Tryd.sizeOf20
 v20:=Tryd.zeroValue20
 t21:=Tryd.underlying21
 a21:=Tryd.isAgg21
 z21:=Tryd.sizeOf21
 v21:=Tryd.zeroValue21
 t37:=Tryd.underlying69
 a37:=Tryd.isAgg69
 z37:=Tryd.sizeOf69
 v37:=Tryd.zeroValue69
 t46:=Tryd.underlying80
 a46:=Tryd.isAgg80
 z46:=Tryd.sizeOf80
 v46:=Tryd.zeroValue80
 t51:=Tryd.underlying103
 a51:=Tryd.isAgg103
 z51:=Tryd.sizeOf103
 v51:=Tryd.zeroValue103
 t53:=Tryd.underlying75
 a53:=Tryd.isAgg75
 z53:=Tryd.sizeOf75
 v53:=Tryd.zeroValue75
 t75:=Tryd.underlying89
 a75:=Tryd.isAgg89
 z75:=Tryd.sizeOf89
 v75:=Tryd.zeroValue89
 t76:=Tryd.underlying90
 a76:=Tryd.isAgg90
 z76:=Tryd.sizeOf90
 v76:=Tryd.zeroValue90
 t85:=Tryd.underlying126
 a85:=Tryd.isAgg126
 z85:=Tryd.sizeOf126
 v85:=Tryd.zeroValue126
 t127:=Tryd.underlying109
 a127:=Tryd.isAgg109
 z127:=Tryd.sizeOf109
 v127:=Tryd.zeroValue109
 t143:=Tryd.underlying140
 a143:=Tryd.isAgg140
 z143:=Tryd.sizeOf140
 v143:=Tryd.zeroValue140
 t145:=Tryd.underlying142
 a145:=Tryd.isAgg142
 z145:=Tryd.sizeOf142
 v145:=Tryd.zeroValue142
 t167:=Tryd.underlying125
 a167:=Tryd.isAgg125
 z167:=Tryd.sizeOf125
 v167:=Tryd.zeroValue125
 t168:=Tryd.underlying128
 a168:=Tryd.isAgg128
 z168:=Tryd.sizeOf128
 v168:=Tryd.zeroValue128
 t171:=Tryd.underlying121
 a171:=Tryd.isAgg121
 z171:=Tryd.sizeOf121
 v171:=Tryd.zeroValue121
 t173:=Tryd.underlying123
 a173:=Tryd.isAgg123
 z173:=Tryd.sizeOf123
 v173:=Tryd.zeroValue123
 t175:=Tryd.underlying134
 a175:=Tryd.isAgg134
 z175:=Tryd.sizeOf134
 v175:=Tryd.zeroValue134
 t210:=Tryd.underlying137
 a210:=Tryd.isAgg137
 z210:=Tryd.sizeOf137
 v210:=Tryd.zeroValue137
 t212:=Tryd.underlying132
 a212:=Tryd.isAgg132
 z212:=Tryd.sizeOf132
 v212:=Tryd.zeroValue132
 t213:=Tryd.underlying133
 a213:=Tryd.isAgg133
 z213:=Tryd.sizeOf133
 t232:=Tryd.underlying143
 a232:=Tryd.isAgg143
 z232:=Tryd.sizeOf143
 v232:=Tryd.zeroValue143
 t233:=Tryd.underlying144
 a233:=Tryd.isAgg144
 z233:=Tryd.sizeOf144
 v233:=Tryd.zeroValue144
 g15:=by kernel_rfl
 g16:=by kernel_rfl
 g17:=by kernel_rfl
 g18:=by kernel_rfl
 g19:=by kernel_rfl
 t80:=Tryd.underlying93
 a80:=Tryd.isAgg93
 z80:=Tryd.sizeOf93
 v80:=Tryd.zeroValue93
 i0:=by kernel_rfl
 i2:=by kernel_rfl
 i3:=by kernel_rfl
 i4:=by kernel_rfl
 i5:=by kernel_rfl
 i9:=by kernel_rfl
 i20:=by kernel_rfl
 i21:=by kernel_rfl
 i37:=by kernel_rfl
 i46:=by kernel_rfl
 i51:=by kernel_rfl
 i53:=by kernel_rfl
 i75:=by kernel_rfl
 i76:=by kernel_rfl
 i80:=by kernel_rfl
 i85:=by kernel_rfl
 i127:=by kernel_rfl
 i143:=by kernel_rfl
 i145:=by kernel_rfl
 i167:=by kernel_rfl
 i168:=by kernel_rfl
 i171:=by kernel_rfl
 i173:=by kernel_rfl
 i175:=by kernel_rfl
 i210:=by kernel_rfl
 i212:=by kernel_rfl
 i232:=by kernel_rfl
 i233:=by kernel_rfl
 m15:=by kernel_rfl
 m16:=by kernel_rfl
 m17:=by kernel_rfl
 m18:=by kernel_rfl
 m19:=by kernel_rfl
 c0:=by kernel_rfl
 c2:=by kernel_rfl
 c3:=by kernel_rfl
 c4:=by kernel_rfl
 c5:=by kernel_rfl
 c9:=by kernel_rfl
 c20:=by kernel_rfl
 c21:=by kernel_rfl
 c37:=by kernel_rfl
 c46:=by kernel_rfl
 c51:=by kernel_rfl
 c53:=by kernel_rfl
 c75:=by kernel_rfl
 c76:=by kernel_rfl
 c80:=by kernel_rfl
 c85:=by kernel_rfl
 c127:=by kernel_rfl
 c143:=by kernel_rfl
 c145:=by kernel_rfl
 c167:=by kernel_rfl
 c168:=by kernel_rfl
 c171:=by kernel_rfl
 c173:=by kernel_rfl
 c175:=by kernel_rfl
 c210:=by kernel_rfl
 c212:=by kernel_rfl
 c213:=by kernel_rfl
 c232:=by kernel_rfl
 c233:=by kernel_rfl }
abbrev gd:Gd:=errGd 4 [] [2,3] (by kernel_rfl) (by kernel_rfl)
noncomputable def ct0 (N:Nat):CT:=[]
theorem hct0 (N:Nat):CTOK gd P (ct0 N):=.nil
noncomputable def i_a (N:Nat):Fi:={ loans:=0,owns:=true,results:=[.tmp 2],rtys:=[4],blks:=[],regs:=[],masks:=[] }
noncomputable def b_a:Code:=match Tryd.f20.body with | some c=>c | none=>.skip
noncomputable def p_a:Pt:=⟨[(.i (.int .u8))],[]⟩
noncomputable def z_a (F:type_of% @spec_l11Letter) (v:p_a.V) (K:KF α):Option α:=F N v.1.1 (fun o0_0=>K (.iv .bool o0_0) [])
noncomputable def g_a (v:p_a.V) (K:KF α):Option α:=z_a N @spec_l11Letter v K
theorem e_a (v:p_a.V) (K:KF α):runFn env (ct0 N) (i_a N) Tryd.f20 (SP.mkL p_a.slots v.1) (BP.mkL p_a.store v.2) K=g_a N v K:=Eq.trans (b:=z_a N @spec_l11Letter.b v K) (by kernel_rfl) (by unfold g_a; rw [spec_l11Letter.eq])
theorem o_a (N:Nat):CalleeOK gd P 20 (mkCallee false p_a (g_a N)) :=
 callee_ok fun v K h=>fn_snd hE hP (hct0 N) Tryd.func20 (by kernel_rfl) (body:=b_a) (by kernel_rfl) (by kernel_rfl) (AllOK.of (by kernel_rfl) .nil) (loans:=BP.mkL p_a.store v.2) rfl ((e_a N v K).trans h)
noncomputable def ct1 (N:Nat):CT:=(20,(mkCallee false p_a (g_a N)))::ct0 N
theorem hct1 (N:Nat):CTOK gd P (ct1 N):=.cons (o_a N) (hct0 N)

noncomputable def i_b (N:Nat):Fi:={ loans:=0,owns:=true,results:=[.tmp 2],rtys:=[4],blks:=[],regs:=[],masks:=[] }
noncomputable def b_b:Code:=match Tryd.f21.body with | some c=>c | none=>.skip
noncomputable def p_b:Pt:=⟨[(.i (.int .u8))],[]⟩
noncomputable def z_b (F:type_of% @spec_l11Digit) (v:p_b.V) (K:KF α):Option α:=F N v.1.1 (fun o0_0=>K (.iv .bool o0_0) [])
noncomputable def g_b (v:p_b.V) (K:KF α):Option α:=z_b N @spec_l11Digit v K
theorem e_b (v:p_b.V) (K:KF α):runFn env (ct1 N) (i_b N) Tryd.f21 (SP.mkL p_b.slots v.1) (BP.mkL p_b.store v.2) K=g_b N v K:=Eq.trans (b:=z_b N @spec_l11Digit.b v K) (by kernel_rfl) (by unfold g_b; rw [spec_l11Digit.eq])
theorem o_b (N:Nat):CalleeOK gd P 21 (mkCallee false p_b (g_b N)) :=
 callee_ok fun v K h=>fn_snd hE hP (hct1 N) Tryd.func21 (by kernel_rfl) (body:=b_b) (by kernel_rfl) (by kernel_rfl) (AllOK.of (by kernel_rfl) .nil) (loans:=BP.mkL p_b.store v.2) rfl ((e_b N v K).trans h)
noncomputable def ct2 (N:Nat):CT:=(21,(mkCallee false p_b (g_b N)))::ct1 N
theorem hct2 (N:Nat):CTOK gd P (ct2 N):=.cons (o_b N) (hct1 N)

noncomputable def p_c:Pt:=⟨(.i .str)::(.i (.int .i64))::.u::.u::.u::(.i (.int .i64))::ups 44 ([]),[]⟩
noncomputable def z_c (F:type_of% (@spec_l11End_L0 α 0 0)) (v:p_c.V) (K:KO α):Option α:=F v.1.1 v.1.2.1 v.1.2.2.2.2.2.1 (fun o0_0=>K (.ret (.iv (.int .i64) o0_0) [])) (fun o1_0=>K (.normal ⟨us 5 ((.iv (.int .i64) o1_0)::us 44 ([])),[]⟩))
noncomputable def g_c (n:Nat) (v:p_c.V) (K:KO α):Option α:=z_c (spec_l11End_L0 N n) v K
noncomputable def q_c (N:Nat):Piece:=(mkPiece 1029 p_c (g_c N N))
noncomputable def i_d (N:Nat):Fi:={ loans:=0,owns:=true,results:=[.tmp 4],rtys:=[3],blks:=[(0,q_c N)],regs:=[],masks:=[(0,1024)] }
noncomputable def b_d:Code:=match Tryd.f22.body with | some c=>c | none=>.skip
noncomputable def n_c:Code:=(.block 0 (.loop (codeAt b_d [1,1,0,0,0])))
theorem e_c (n:Nat) (v:p_c.V) (K:KO α):runRound env (ct2 N) (i_d N) 1029 (mkPiece 1029 p_c (g_c N n)).run n_c (p_c.mk' v) K=g_c N (n + 1) v K:=Eq.trans (b:=z_c (fun x0 x1 x2 k0 k1=>spec_l11End_L0r N (fun y0 y1 y2=>spec_l11End_L0 N n y0 y1 y2 k0 k1) k0 k1 x0 x1 x2) v K) (by kernel_rfl) (by unfold g_c z_c; rw [spec_l11End_L0.succ])
theorem o_c (N:Nat):PieceOK gd P (i_d N) n_c (q_c N) :=
 piece_loop hE hP (hct2 N) (AllOK.of (by kernel_rfl) .nil) (fun n {_}=>g_c N n) (fun _ _=>spec_l11End_L0.zero ..) (fun n {_} v K=>e_c N n v K) N
noncomputable def p_d:Pt:=⟨[(.i .str),(.i (.int .i64))],[]⟩
noncomputable def z_d (F:type_of% @spec_l11End) (v:p_d.V) (K:KF α):Option α:=F N v.1.1 v.1.2.1 (fun o0_0=>K (.iv (.int .i64) o0_0) [])
noncomputable def g_d (v:p_d.V) (K:KF α):Option α:=z_d N @spec_l11End v K
theorem e_d (v:p_d.V) (K:KF α):runFn env (ct2 N) (i_d N) Tryd.f22 (SP.mkL p_d.slots v.1) (BP.mkL p_d.store v.2) K=g_d N v K:=Eq.trans (b:=z_d N @spec_l11End.b v K) (by kernel_rfl) (by unfold g_d; rw [spec_l11End.eq])
theorem o_d (N:Nat):CalleeOK gd P 22 (mkCallee false p_d (g_d N)) :=
 callee_ok fun v K h=>fn_snd hE hP (hct2 N) Tryd.func22 (by kernel_rfl) (body:=b_d) (by kernel_rfl) (by kernel_rfl) (AllOK.of (by kernel_rfl) (.cons (o_c N) .nil)) (loans:=BP.mkL p_d.store v.2) rfl ((e_d N v K).trans h)
noncomputable def ct3 (N:Nat):CT:=(22,(mkCallee false p_d (g_d N)))::ct2 N
theorem hct3 (N:Nat):CTOK gd P (ct3 N):=.cons (o_d N) (hct2 N)

noncomputable def p_e:Pt:=⟨(.i .str)::(.i (.int .i64))::.u::.u::.u::(.i (.int .i64))::ups 17 ([]),[]⟩
noncomputable def z_e (F:type_of% (@spec_l11Run_L0 α 0 0)) (v:p_e.V) (K:KO α):Option α:=F v.1.1 v.1.2.1 v.1.2.2.2.2.2.1 (fun o0_0=>K (.normal ⟨us 5 ((.iv (.int .i64) o0_0)::us 17 ([])),[]⟩))
noncomputable def g_e (n:Nat) (v:p_e.V) (K:KO α):Option α:=z_e (spec_l11Run_L0 N n) v K
noncomputable def q_e (N:Nat):Piece:=(mkPiece 1029 p_e (g_e N N))
noncomputable def i_f (N:Nat):Fi:={ loans:=0,owns:=true,results:=[.tmp 4],rtys:=[3],blks:=[(0,q_e N)],regs:=[],masks:=[(0,1024)] }
noncomputable def b_f:Code:=match Tryd.f56.body with | some c=>c | none=>.skip
noncomputable def n_e:Code:=(.block 0 (.loop (codeAt b_f [1,1,0,0,0])))
theorem e_e (n:Nat) (v:p_e.V) (K:KO α):runRound env (ct3 N) (i_f N) 1029 (mkPiece 1029 p_e (g_e N n)).run n_e (p_e.mk' v) K=g_e N (n + 1) v K:=Eq.trans (b:=z_e (fun x0 x1 x2 k0=>spec_l11Run_L0r N (fun y0 y1 y2=>spec_l11Run_L0 N n y0 y1 y2 k0) k0 x0 x1 x2) v K) (by kernel_rfl) (by unfold g_e z_e; rw [spec_l11Run_L0.succ])
theorem o_e (N:Nat):PieceOK gd P (i_f N) n_e (q_e N) :=
 piece_loop hE hP (hct3 N) (AllOK.of (by kernel_rfl) .nil) (fun n {_}=>g_e N n) (fun _ _=>spec_l11Run_L0.zero ..) (fun n {_} v K=>e_e N n v K) N
noncomputable def p_f:Pt:=⟨[(.i .str),(.i (.int .i64))],[]⟩
noncomputable def z_f (F:type_of% @spec_l11Run) (v:p_f.V) (K:KF α):Option α:=F N v.1.1 v.1.2.1 (fun o0_0=>K (.iv (.int .i64) o0_0) [])
noncomputable def g_f (v:p_f.V) (K:KF α):Option α:=z_f N @spec_l11Run v K
theorem e_f (v:p_f.V) (K:KF α):runFn env (ct3 N) (i_f N) Tryd.f56 (SP.mkL p_f.slots v.1) (BP.mkL p_f.store v.2) K=g_f N v K:=Eq.trans (b:=z_f N @spec_l11Run.b v K) (by kernel_rfl) (by unfold g_f; rw [spec_l11Run.eq])
theorem o_f (N:Nat):CalleeOK gd P 56 (mkCallee false p_f (g_f N)) :=
 callee_ok fun v K h=>fn_snd hE hP (hct3 N) Tryd.func56 (by kernel_rfl) (body:=b_f) (by kernel_rfl) (by kernel_rfl) (AllOK.of (by kernel_rfl) (.cons (o_e N) .nil)) (loans:=BP.mkL p_f.store v.2) rfl ((e_f N v K).trans h)
noncomputable def ct4 (N:Nat):CT:=(56,(mkCallee false p_f (g_f N)))::ct3 N
theorem hct4 (N:Nat):CTOK gd P (ct4 N):=.cons (o_f N) (hct3 N)

noncomputable def p_g:Pt:=⟨(.i .str)::.u::.u::.u::(.i (.int .i64))::ups 109 ([]),[]⟩
noncomputable def z_g (F:type_of% @spec_LangNumOk_J5) (v:p_g.V) (K:KO α):Option α:=F N v.1.1 v.1.2.2.2.2.1 (fun o0_0=>K (.ret (.iv .bool o0_0) [])) (fun o1_0 o1_1=>K (.normal ⟨(.iv .str o1_0)::U::U::U::(.iv (.int .i64) o1_1)::us 109 ([]),[]⟩))
noncomputable def g_g (v:p_g.V) (K:KO α):Option α:=z_g N @spec_LangNumOk_J5 v K
noncomputable def p_h:Pt:=⟨(.i .str)::.u::.u::.u::(.i (.int .i64))::.u::(.i .bool)::ups 107 ([]),[]⟩
noncomputable def z_h (F:type_of% @spec_LangNumOk_J13) (v:p_h.V) (K:KO α):Option α:=F N v.1.1 v.1.2.2.2.2.1 v.1.2.2.2.2.2.2.1 (fun o0_0 o0_1 o0_2=>K (.normal ⟨(.iv .str o0_0)::U::U::U::(.iv (.int .i64) o0_1)::U::(.iv .bool o0_2)::us 107 ([]),[]⟩))
noncomputable def g_h (v:p_h.V) (K:KO α):Option α:=z_h N @spec_LangNumOk_J13 v K
noncomputable def p_i:Pt:=⟨(.i .str)::.u::.u::.u::(.i (.int .i64))::ups 109 ([]),[]⟩
noncomputable def z_i (F:type_of% @spec_LangNumOk_J10) (v:p_i.V) (K:KO α):Option α:=F N v.1.1 v.1.2.2.2.2.1 (fun o0_0=>K (.ret (.iv .bool o0_0) [])) (fun o1_0 o1_1=>K (.normal ⟨(.iv .str o1_0)::U::U::U::(.iv (.int .i64) o1_1)::us 109 ([]),[]⟩))
noncomputable def g_i (v:p_i.V) (K:KO α):Option α:=z_i N @spec_LangNumOk_J10 v K
noncomputable def q_g (N:Nat):Piece:=(mkPiece 257 p_g (g_g N))
noncomputable def q_h (N:Nat):Piece:=(mkPiece 4353 p_h (g_h N))
noncomputable def q_i (N:Nat):Piece:=(mkPiece 257 p_i (g_i N))
noncomputable def i_j (N:Nat):Fi:={ loans:=0,owns:=true,results:=[.tmp 2],rtys:=[4],blks:=[],regs:=[(5,q_g N),(13,q_h N),(10,q_i N)],masks:=[] }
noncomputable def b_j:Code:=match Tryd.f23.body with | some c=>c | none=>.skip
noncomputable def n_g:Code:=(.seq (codeAt b_j [1,1,1,1,0,0]) (codeAt b_j [1,1,1,1,0,1]))
noncomputable def n_h:Code:=(.seq (codeAt b_j [1,1,1,1,1,0,1,0,1,1,0,0]) (codeAt b_j [1,1,1,1,1,0,1,0,1,1,0,1]))
noncomputable def n_i:Code:=(.seq (codeAt b_j [1,1,1,1,1,0,0]) (codeAt b_j [1,1,1,1,1,0,1]))
theorem e_g (v:p_g.V) (K:KO α):runSeq env (ct4 N) (i_j N) 257 n_g (p_g.mk' v) K=g_g N v K:=Eq.trans (b:=z_g N @spec_LangNumOk_J5.b v K) (by kernel_rfl) (by unfold g_g; rw [spec_LangNumOk_J5.eq])
theorem o_g (N:Nat):PieceOK gd P (i_j N) n_g (q_g N) :=
 piece_seq hE hP (hct4 N) (AllOK.of (by kernel_rfl) .nil) (AllOK.of (by kernel_rfl) .nil) (e_g N)
theorem e_h (v:p_h.V) (K:KO α):runSeq env (ct4 N) (i_j N) 4353 n_h (p_h.mk' v) K=g_h N v K:=Eq.trans (b:=z_h N @spec_LangNumOk_J13.b v K) (by kernel_rfl) (by unfold g_h; rw [spec_LangNumOk_J13.eq])
theorem o_h (N:Nat):PieceOK gd P (i_j N) n_h (q_h N) :=
 piece_seq hE hP (hct4 N) (AllOK.of (by kernel_rfl) .nil) (AllOK.of (by kernel_rfl) .nil) (e_h N)
theorem e_i (v:p_i.V) (K:KO α):runSeq env (ct4 N) (i_j N) 257 n_i (p_i.mk' v) K=g_i N v K:=Eq.trans (b:=z_i N @spec_LangNumOk_J10.b v K) (by kernel_rfl) (by unfold g_i; rw [spec_LangNumOk_J10.eq])
theorem o_i (N:Nat):PieceOK gd P (i_j N) n_i (q_i N) :=
 piece_seq hE hP (hct4 N) (AllOK.of (by kernel_rfl) .nil) (AllOK.of (by kernel_rfl) (.cons (o_h N) .nil)) (e_i N)
noncomputable def p_j:Pt:=⟨[(.i .str)],[]⟩
noncomputable def z_j (F:type_of% @spec_LangNumOk) (v:p_j.V) (K:KF α):Option α:=F N v.1.1 (fun o0_0=>K (.iv .bool o0_0) [])
noncomputable def g_j (v:p_j.V) (K:KF α):Option α:=z_j N @spec_LangNumOk v K
theorem e_j (v:p_j.V) (K:KF α):runFn env (ct4 N) (i_j N) Tryd.f23 (SP.mkL p_j.slots v.1) (BP.mkL p_j.store v.2) K=g_j N v K:=Eq.trans (b:=z_j N @spec_LangNumOk.b v K) (by kernel_rfl) (by unfold g_j; rw [spec_LangNumOk.eq])
theorem o_j (N:Nat):CalleeOK gd P 23 (mkCallee false p_j (g_j N)) :=
 callee_ok fun v K h=>fn_snd hE hP (hct4 N) Tryd.func23 (by kernel_rfl) (body:=b_j) (by kernel_rfl) (by kernel_rfl) (AllOK.of (by kernel_rfl) (.cons (o_g N) (.cons (o_i N) .nil))) (loans:=BP.mkL p_j.store v.2) rfl ((e_j N v K).trans h)
noncomputable def ct5 (N:Nat):CT:=(23,(mkCallee false p_j (g_j N)))::ct4 N
theorem hct5 (N:Nat):CTOK gd P (ct5 N):=.cons (o_j N) (hct4 N)

noncomputable def p_k:Pt:=⟨(.i .str)::.u::.u::(.i (.int .i64))::ups 32 ([]),[]⟩
noncomputable def z_k (F:type_of% (@spec_l11Plain_L0 α 0 0)) (v:p_k.V) (K:KO α):Option α:=F v.1.1 v.1.2.2.2.1 (fun o0_0=>K (.ret (.iv .bool o0_0) [])) (K (.normal ⟨us 36 ([]),[]⟩))
noncomputable def g_k (n:Nat) (v:p_k.V) (K:KO α):Option α:=z_k (spec_l11Plain_L0 N n) v K
noncomputable def q_k (N:Nat):Piece:=(mkPiece 65 p_k (g_k N N))
noncomputable def i_l (N:Nat):Fi:={ loans:=0,owns:=true,results:=[.tmp 2],rtys:=[4],blks:=[(0,q_k N)],regs:=[],masks:=[(0,0)] }
noncomputable def b_l:Code:=match Tryd.f24.body with | some c=>c | none=>.skip
noncomputable def n_k:Code:=(.block 0 (.loop (codeAt b_l [1,1,0,1,0,0])))
theorem e_k (n:Nat) (v:p_k.V) (K:KO α):runRound env (ct5 N) (i_l N) 65 (mkPiece 65 p_k (g_k N n)).run n_k (p_k.mk' v) K=g_k N (n + 1) v K:=Eq.trans (b:=z_k (fun x0 x1 k0 k1=>spec_l11Plain_L0r N (fun y0 y1=>spec_l11Plain_L0 N n y0 y1 k0 k1) k0 k1 x0 x1) v K) (by kernel_rfl) (by unfold g_k z_k; rw [spec_l11Plain_L0.succ])
theorem o_k (N:Nat):PieceOK gd P (i_l N) n_k (q_k N) :=
 piece_loop hE hP (hct5 N) (AllOK.of (by kernel_rfl) .nil) (fun n {_}=>g_k N n) (fun _ _=>spec_l11Plain_L0.zero ..) (fun n {_} v K=>e_k N n v K) N
noncomputable def p_l:Pt:=⟨[(.i .str)],[]⟩
noncomputable def z_l (F:type_of% @spec_l11Plain) (v:p_l.V) (K:KF α):Option α:=F N v.1.1 (fun o0_0=>K (.iv .bool o0_0) [])
noncomputable def g_l (v:p_l.V) (K:KF α):Option α:=z_l N @spec_l11Plain v K
theorem e_l (v:p_l.V) (K:KF α):runFn env (ct5 N) (i_l N) Tryd.f24 (SP.mkL p_l.slots v.1) (BP.mkL p_l.store v.2) K=g_l N v K:=Eq.trans (b:=z_l N @spec_l11Plain.b v K) (by kernel_rfl) (by unfold g_l; rw [spec_l11Plain.eq])
theorem o_l (N:Nat):CalleeOK gd P 24 (mkCallee false p_l (g_l N)) :=
 callee_ok fun v K h=>fn_snd hE hP (hct5 N) Tryd.func24 (by kernel_rfl) (body:=b_l) (by kernel_rfl) (by kernel_rfl) (AllOK.of (by kernel_rfl) (.cons (o_k N) .nil)) (loans:=BP.mkL p_l.store v.2) rfl ((e_l N v K).trans h)
noncomputable def ct6 (N:Nat):CT:=(24,(mkCallee false p_l (g_l N)))::ct5 N
theorem hct6 (N:Nat):CTOK gd P (ct6 N):=.cons (o_l N) (hct5 N)

noncomputable def p_m:Pt:=⟨(.i .str)::(.i (.int .i64))::ups 34 ((.i (.int .u8))::ups 15 ([])),[]⟩
noncomputable def z_m (F:type_of% @spec_l11Sign_J11) (v:p_m.V) (K:KO α):Option α:=F N v.1.1 v.1.2.1 (nx 34 v.1.2.2).1 (fun o0_0 o0_1 o0_2=>K (.normal ⟨(.iv .str o0_0)::(.iv (.int .i64) o0_1)::us 35 ((.iv .bool o0_2)::us 14 ([])),[]⟩))
noncomputable def g_m (v:p_m.V) (K:KO α):Option α:=z_m N @spec_l11Sign_J11 v K
noncomputable def p_n:Pt:=⟨(.i .str)::(.i (.int .i64))::ups 34 ((.i (.int .u8))::ups 15 ([])),[]⟩
noncomputable def z_n (F:type_of% @spec_l11Sign_J10) (v:p_n.V) (K:KO α):Option α:=F N v.1.1 v.1.2.1 (nx 34 v.1.2.2).1 (fun o0_0 o0_1 o0_2=>K (.normal ⟨(.iv .str o0_0)::(.iv (.int .i64) o0_1)::us 35 ((.iv .bool o0_2)::us 14 ([])),[]⟩))
noncomputable def g_n (v:p_n.V) (K:KO α):Option α:=z_n N @spec_l11Sign_J10 v K
noncomputable def p_o:Pt:=⟨(.i .str)::(.i (.int .i64))::ups 34 ((.i (.int .u8))::ups 15 ([])),[]⟩
noncomputable def z_o (F:type_of% @spec_l11Sign_J9) (v:p_o.V) (K:KO α):Option α:=F N v.1.1 v.1.2.1 (nx 34 v.1.2.2).1 (fun o0_0 o0_1 o0_2=>K (.normal ⟨(.iv .str o0_0)::(.iv (.int .i64) o0_1)::us 35 ((.iv .bool o0_2)::us 14 ([])),[]⟩))
noncomputable def g_o (v:p_o.V) (K:KO α):Option α:=z_o N @spec_l11Sign_J9 v K
noncomputable def p_p:Pt:=⟨(.i .str)::(.i (.int .i64))::ups 34 ((.i (.int .u8))::ups 15 ([])),[]⟩
noncomputable def z_p (F:type_of% @spec_l11Sign_J8) (v:p_p.V) (K:KO α):Option α:=F N v.1.1 v.1.2.1 (nx 34 v.1.2.2).1 (fun o0_0 o0_1 o0_2=>K (.normal ⟨(.iv .str o0_0)::(.iv (.int .i64) o0_1)::us 35 ((.iv .bool o0_2)::us 14 ([])),[]⟩))
noncomputable def g_p (v:p_p.V) (K:KO α):Option α:=z_p N @spec_l11Sign_J8 v K
noncomputable def p_q:Pt:=⟨(.i .str)::(.i (.int .i64))::ups 34 ((.i (.int .u8))::ups 15 ([])),[]⟩
noncomputable def z_q (F:type_of% @spec_l11Sign_J7) (v:p_q.V) (K:KO α):Option α:=F N v.1.1 v.1.2.1 (nx 34 v.1.2.2).1 (fun o0_0 o0_1 o0_2=>K (.normal ⟨(.iv .str o0_0)::(.iv (.int .i64) o0_1)::us 35 ((.iv .bool o0_2)::us 14 ([])),[]⟩))
noncomputable def g_q (v:p_q.V) (K:KO α):Option α:=z_q N @spec_l11Sign_J7 v K
noncomputable def p_r:Pt:=⟨(.i .str)::(.i (.int .i64))::ups 34 ((.i (.int .u8))::ups 15 ([])),[]⟩
noncomputable def z_r (F:type_of% @spec_l11Sign_J6) (v:p_r.V) (K:KO α):Option α:=F N v.1.1 v.1.2.1 (nx 34 v.1.2.2).1 (fun o0_0 o0_1 o0_2=>K (.normal ⟨(.iv .str o0_0)::(.iv (.int .i64) o0_1)::us 35 ((.iv .bool o0_2)::us 14 ([])),[]⟩))
noncomputable def g_r (v:p_r.V) (K:KO α):Option α:=z_r N @spec_l11Sign_J6 v K
noncomputable def p_s:Pt:=⟨(.i .str)::(.i (.int .i64))::ups 34 ((.i (.int .u8))::ups 15 ([])),[]⟩
noncomputable def z_s (F:type_of% @spec_l11Sign_J5) (v:p_s.V) (K:KO α):Option α:=F N v.1.1 v.1.2.1 (nx 34 v.1.2.2).1 (fun o0_0 o0_1 o0_2=>K (.normal ⟨(.iv .str o0_0)::(.iv (.int .i64) o0_1)::us 35 ((.iv .bool o0_2)::us 14 ([])),[]⟩))
noncomputable def g_s (v:p_s.V) (K:KO α):Option α:=z_s N @spec_l11Sign_J5 v K
noncomputable def p_t:Pt:=⟨(.i .str)::(.i (.int .i64))::ups 34 ((.i (.int .u8))::ups 15 ([])),[]⟩
noncomputable def z_t (F:type_of% @spec_l11Sign_J4) (v:p_t.V) (K:KO α):Option α:=F N v.1.1 v.1.2.1 (nx 34 v.1.2.2).1 (fun o0_0 o0_1 o0_2=>K (.normal ⟨(.iv .str o0_0)::(.iv (.int .i64) o0_1)::us 35 ((.iv .bool o0_2)::us 14 ([])),[]⟩))
noncomputable def g_t (v:p_t.V) (K:KO α):Option α:=z_t N @spec_l11Sign_J4 v K
noncomputable def q_m (N:Nat):Piece:=(mkPiece 4722366482869645213701 p_m (g_m N))
noncomputable def q_n (N:Nat):Piece:=(mkPiece 4722366482869645213701 p_n (g_n N))
noncomputable def q_o (N:Nat):Piece:=(mkPiece 4722366482869645213701 p_o (g_o N))
noncomputable def q_p (N:Nat):Piece:=(mkPiece 4722366482869645213701 p_p (g_p N))
noncomputable def q_q (N:Nat):Piece:=(mkPiece 4722366482869645213701 p_q (g_q N))
noncomputable def q_r (N:Nat):Piece:=(mkPiece 4722366482869645213701 p_r (g_r N))
noncomputable def q_s (N:Nat):Piece:=(mkPiece 4722366482869645213701 p_s (g_s N))
noncomputable def q_t (N:Nat):Piece:=(mkPiece 4722366482869645213701 p_t (g_t N))
noncomputable def i_u (N:Nat):Fi:={ loans:=0,owns:=true,results:=[.tmp 4],rtys:=[9],blks:=[],regs:=[(11,q_m N),(10,q_n N),(9,q_o N),(8,q_p N),(7,q_q N),(6,q_r N),(5,q_s N),(4,q_t N)],masks:=[] }
noncomputable def b_u:Code:=match Tryd.f25.body with | some c=>c | none=>.skip
noncomputable def n_m:Code:=(.seq (codeAt b_u [1,1,0,1,0,0,1,1,1,1,1,1,1,1,1,1,1,1,1,1,0]) (codeAt b_u [1,1,0,1,0,0,1,1,1,1,1,1,1,1,1,1,1,1,1,1,1]))
noncomputable def n_n:Code:=(.seq (codeAt b_u [1,1,0,1,0,0,1,1,1,1,1,1,1,1,1,1,1,1,0]) (codeAt b_u [1,1,0,1,0,0,1,1,1,1,1,1,1,1,1,1,1,1,1]))
noncomputable def n_o:Code:=(.seq (codeAt b_u [1,1,0,1,0,0,1,1,1,1,1,1,1,1,1,1,0]) (codeAt b_u [1,1,0,1,0,0,1,1,1,1,1,1,1,1,1,1,1]))
noncomputable def n_p:Code:=(.seq (codeAt b_u [1,1,0,1,0,0,1,1,1,1,1,1,1,1,0]) (codeAt b_u [1,1,0,1,0,0,1,1,1,1,1,1,1,1,1]))
noncomputable def n_q:Code:=(.seq (codeAt b_u [1,1,0,1,0,0,1,1,1,1,1,1,0]) (codeAt b_u [1,1,0,1,0,0,1,1,1,1,1,1,1]))
noncomputable def n_r:Code:=(.seq (codeAt b_u [1,1,0,1,0,0,1,1,1,1,0]) (codeAt b_u [1,1,0,1,0,0,1,1,1,1,1]))
noncomputable def n_s:Code:=(.seq (codeAt b_u [1,1,0,1,0,0,1,1,0]) (codeAt b_u [1,1,0,1,0,0,1,1,1]))
noncomputable def n_t:Code:=(.seq (codeAt b_u [1,1,0,1,0,0,0]) (codeAt b_u [1,1,0,1,0,0,1]))
theorem e_m (v:p_m.V) (K:KO α):runSeq env (ct6 N) (i_u N) 18889465931478580854789 n_m (p_m.mk' v) K=g_m N v K:=Eq.trans (b:=z_m N @spec_l11Sign_J11.b v K) (by kernel_rfl) (by unfold g_m; rw [spec_l11Sign_J11.eq])
theorem o_m (N:Nat):PieceOK gd P (i_u N) n_m (q_m N) :=
 piece_seq hE hP (hct6 N) (AllOK.of (by kernel_rfl) .nil) (AllOK.of (by kernel_rfl) .nil) (e_m N)
theorem e_n (v:p_n.V) (K:KO α):runSeq env (ct6 N) (i_u N) 18889465931478580854789 n_n (p_n.mk' v) K=g_n N v K:=Eq.trans (b:=z_n N @spec_l11Sign_J10.b v K) (by kernel_rfl) (by unfold g_n; rw [spec_l11Sign_J10.eq])
theorem o_n (N:Nat):PieceOK gd P (i_u N) n_n (q_n N) :=
 piece_seq hE hP (hct6 N) (AllOK.of (by kernel_rfl) .nil) (AllOK.of (by kernel_rfl) (.cons (o_m N) .nil)) (e_n N)
theorem e_o (v:p_o.V) (K:KO α):runSeq env (ct6 N) (i_u N) 18889465931478580854789 n_o (p_o.mk' v) K=g_o N v K:=Eq.trans (b:=z_o N @spec_l11Sign_J9.b v K) (by kernel_rfl) (by unfold g_o; rw [spec_l11Sign_J9.eq])
theorem o_o (N:Nat):PieceOK gd P (i_u N) n_o (q_o N) :=
 piece_seq hE hP (hct6 N) (AllOK.of (by kernel_rfl) .nil) (AllOK.of (by kernel_rfl) (.cons (o_n N) .nil)) (e_o N)
theorem e_p (v:p_p.V) (K:KO α):runSeq env (ct6 N) (i_u N) 18889465931478580854789 n_p (p_p.mk' v) K=g_p N v K:=Eq.trans (b:=z_p N @spec_l11Sign_J8.b v K) (by kernel_rfl) (by unfold g_p; rw [spec_l11Sign_J8.eq])
theorem o_p (N:Nat):PieceOK gd P (i_u N) n_p (q_p N) :=
 piece_seq hE hP (hct6 N) (AllOK.of (by kernel_rfl) .nil) (AllOK.of (by kernel_rfl) (.cons (o_o N) .nil)) (e_p N)
theorem e_q (v:p_q.V) (K:KO α):runSeq env (ct6 N) (i_u N) 18889465931478580854789 n_q (p_q.mk' v) K=g_q N v K:=Eq.trans (b:=z_q N @spec_l11Sign_J7.b v K) (by kernel_rfl) (by unfold g_q; rw [spec_l11Sign_J7.eq])
theorem o_q (N:Nat):PieceOK gd P (i_u N) n_q (q_q N) :=
 piece_seq hE hP (hct6 N) (AllOK.of (by kernel_rfl) .nil) (AllOK.of (by kernel_rfl) (.cons (o_p N) .nil)) (e_q N)
theorem e_r (v:p_r.V) (K:KO α):runSeq env (ct6 N) (i_u N) 18889465931478580854789 n_r (p_r.mk' v) K=g_r N v K:=Eq.trans (b:=z_r N @spec_l11Sign_J6.b v K) (by kernel_rfl) (by unfold g_r; rw [spec_l11Sign_J6.eq])
theorem o_r (N:Nat):PieceOK gd P (i_u N) n_r (q_r N) :=
 piece_seq hE hP (hct6 N) (AllOK.of (by kernel_rfl) .nil) (AllOK.of (by kernel_rfl) (.cons (o_q N) .nil)) (e_r N)
theorem e_s (v:p_s.V) (K:KO α):runSeq env (ct6 N) (i_u N) 18889465931478580854789 n_s (p_s.mk' v) K=g_s N v K:=Eq.trans (b:=z_s N @spec_l11Sign_J5.b v K) (by kernel_rfl) (by unfold g_s; rw [spec_l11Sign_J5.eq])
theorem o_s (N:Nat):PieceOK gd P (i_u N) n_s (q_s N) :=
 piece_seq hE hP (hct6 N) (AllOK.of (by kernel_rfl) .nil) (AllOK.of (by kernel_rfl) (.cons (o_r N) .nil)) (e_s N)
theorem e_t (v:p_t.V) (K:KO α):runSeq env (ct6 N) (i_u N) 18889465931478580854789 n_t (p_t.mk' v) K=g_t N v K:=Eq.trans (b:=z_t N @spec_l11Sign_J4.b v K) (by kernel_rfl) (by unfold g_t; rw [spec_l11Sign_J4.eq])
theorem o_t (N:Nat):PieceOK gd P (i_u N) n_t (q_t N) :=
 piece_seq hE hP (hct6 N) (AllOK.of (by kernel_rfl) .nil) (AllOK.of (by kernel_rfl) (.cons (o_s N) .nil)) (e_t N)
noncomputable def p_u:Pt:=⟨[(.i .str),(.i (.int .i64))],[]⟩
noncomputable def z_u (F:type_of% @spec_l11Sign) (v:p_u.V) (K:KF α):Option α:=F N v.1.1 v.1.2.1 (fun o0_0=>K (.iv .str o0_0) [])
noncomputable def g_u (v:p_u.V) (K:KF α):Option α:=z_u N @spec_l11Sign v K
theorem e_u (v:p_u.V) (K:KF α):runFn env (ct6 N) (i_u N) Tryd.f25 (SP.mkL p_u.slots v.1) (BP.mkL p_u.store v.2) K=g_u N v K:=Eq.trans (b:=z_u N @spec_l11Sign.b v K) (by kernel_rfl) (by unfold g_u; rw [spec_l11Sign.eq])
theorem o_u (N:Nat):CalleeOK gd P 25 (mkCallee false p_u (g_u N)) :=
 callee_ok fun v K h=>fn_snd hE hP (hct6 N) Tryd.func25 (by kernel_rfl) (body:=b_u) (by kernel_rfl) (by kernel_rfl) (AllOK.of (by kernel_rfl) (.cons (o_t N) .nil)) (loans:=BP.mkL p_u.store v.2) rfl ((e_u N v K).trans h)
noncomputable def ct7 (N:Nat):CT:=(25,(mkCallee false p_u (g_u N)))::ct6 N
theorem hct7 (N:Nat):CTOK gd P (ct7 N):=.cons (o_u N) (hct6 N)

noncomputable def p_v:Pt:=⟨(.i .str)::.u::.u::.u::(.o 0)::(.i (.int .i64))::.u::.u::(.i (.int .i64))::(.p 1 [] 0)::ups 76 ([]),[(.arr 44 (.pair (.int .i64) (.pair .str .unit)) false),(.box 44 (.i (.pair (.int .i64) (.pair .str .unit))) false)]⟩
noncomputable def z_v (F:type_of% @spec_LangTokens_J15) (v:p_v.V) (K:KO α):Option α:=F N v.1.1 v.1.2.2.2.2.2.1 v.1.2.2.2.2.2.2.2.2.1 v.2.1 v.2.2.1 (fun o0_0 o0_1 o0_2 o0_3 o0_4=>K (.normal ⟨(.iv .str o0_0)::U::U::U::(.own 0)::(.iv (.int .i64) o0_1)::U::U::(.iv (.int .i64) o0_2)::(.lp 1 [] 0)::us 76 ([]),[(.arr 44 (.pair (.int .i64) (.pair .str .unit)) o0_3 false),(.box 44 (.iv (.pair (.int .i64) (.pair .str .unit)) o0_4) false)]⟩))
noncomputable def g_v (v:p_v.V) (K:KO α):Option α:=z_v N @spec_LangTokens_J15 v K
noncomputable def p_w:Pt:=⟨(.i .str)::.u::.u::.u::(.o 0)::(.i (.int .i64))::.u::(.i (.int .u8))::(.i (.int .i64))::(.p 1 [] 0)::ups 76 ([]),[(.arr 44 (.pair (.int .i64) (.pair .str .unit)) false),(.box 44 (.i (.pair (.int .i64) (.pair .str .unit))) false)]⟩
noncomputable def z_w (F:type_of% @spec_LangTokens_J13) (v:p_w.V) (K:KO α):Option α:=F N v.1.1 v.1.2.2.2.2.2.1 v.1.2.2.2.2.2.2.2.1 v.1.2.2.2.2.2.2.2.2.1 v.2.1 v.2.2.1 (fun o0_0 o0_1 o0_2 o0_3 o0_4=>K (.normal ⟨(.iv .str o0_0)::U::U::U::(.own 0)::(.iv (.int .i64) o0_1)::U::U::(.iv (.int .i64) o0_2)::(.lp 1 [] 0)::us 76 ([]),[(.arr 44 (.pair (.int .i64) (.pair .str .unit)) o0_3 false),(.box 44 (.iv (.pair (.int .i64) (.pair .str .unit)) o0_4) false)]⟩)) (fun o1_0 o1_1=>K (.ret (.tuple [(.own 0),(.iv (.int .i64) o1_0)]) [(.arr 44 (.pair (.int .i64) (.pair .str .unit)) o1_1 false)]))
noncomputable def g_w (v:p_w.V) (K:KO α):Option α:=z_w N @spec_LangTokens_J13 v K
noncomputable def p_x:Pt:=⟨(.i .str)::.u::.u::.u::(.o 0)::(.i (.int .i64))::(.i (.int .i64))::ups 79 ([]),[(.arr 44 (.pair (.int .i64) (.pair .str .unit)) false)]⟩
noncomputable def z_x (F:type_of% (@spec_LangTokens_L0 α 0 0)) (v:p_x.V) (K:KO α):Option α:=F v.1.1 v.1.2.2.2.2.2.1 v.1.2.2.2.2.2.2.1 v.2.1 (fun o0_0 o0_1=>K (.ret (.tuple [(.own 0),(.iv (.int .i64) o0_0)]) [(.arr 44 (.pair (.int .i64) (.pair .str .unit)) o0_1 false)])) (fun o1_0 o1_1=>K (.normal ⟨us 4 ((.own 0)::(.iv (.int .i64) o1_0)::us 80 ([])),[(.arr 44 (.pair (.int .i64) (.pair .str .unit)) o1_1 false)]⟩))
noncomputable def g_x (n:Nat) (v:p_x.V) (K:KO α):Option α:=z_x (spec_LangTokens_L0 N n) v K
noncomputable def q_v (N:Nat):Piece:=(mkPiece 328961 p_v (g_v N))
noncomputable def q_w (N:Nat):Piece:=(mkPiece 345345 p_w (g_w N))
noncomputable def q_x (N:Nat):Piece:=(mkPiece 5377 p_x (g_x N N))
noncomputable def i_y (N:Nat):Fi:={ loans:=0,owns:=true,results:=[.tmp 2,.tmp 3],rtys:=[22,3],blks:=[(0,q_x N)],regs:=[(15,q_v N),(13,q_w N)],masks:=[(0,1280)] }
noncomputable def b_y:Code:=match Tryd.f6.body with | some c=>c | none=>.skip
noncomputable def n_v:Code:=(.seq (codeAt b_y [1,1,1,1,1,0,0,0,1,0,1,1,0,1,0,1,1,0,1,0,1,0]) (codeAt b_y [1,1,1,1,1,0,0,0,1,0,1,1,0,1,0,1,1,0,1,0,1,1]))
noncomputable def n_w:Code:=(.seq (codeAt b_y [1,1,1,1,1,0,0,0,1,0,1,1,0,1,0,1,1,0,0]) (codeAt b_y [1,1,1,1,1,0,0,0,1,0,1,1,0,1,0,1,1,0,1]))
noncomputable def n_x:Code:=(.block 0 (.loop (codeAt b_y [1,1,1,1,1,0,0,0])))
theorem e_v (v:p_v.V) (K:KO α):runSeq env (ct7 N) (i_y N) 328961 n_v (p_v.mk' v) K=g_v N v K:=Eq.trans (b:=z_v N @spec_LangTokens_J15.b v K) (by kernel_rfl) (by unfold g_v; rw [spec_LangTokens_J15.eq])
theorem o_v (N:Nat):PieceOK gd P (i_y N) n_v (q_v N) :=
 piece_seq hE hP (hct7 N) (AllOK.of (by kernel_rfl) .nil) (AllOK.of (by kernel_rfl) .nil) (e_v N)
theorem e_w (v:p_w.V) (K:KO α):runSeq env (ct7 N) (i_y N) 328961 n_w (p_w.mk' v) K=g_w N v K:=Eq.trans (b:=z_w N @spec_LangTokens_J13.b v K) (by kernel_rfl) (by unfold g_w; rw [spec_LangTokens_J13.eq])
theorem o_w (N:Nat):PieceOK gd P (i_y N) n_w (q_w N) :=
 piece_seq hE hP (hct7 N) (AllOK.of (by kernel_rfl) .nil) (AllOK.of (by kernel_rfl) (.cons (o_v N) .nil)) (e_w N)
theorem e_x (n:Nat) (v:p_x.V) (K:KO α):runRound env (ct7 N) (i_y N) 5377 (mkPiece 5377 p_x (g_x N n)).run n_x (p_x.mk' v) K=g_x N (n + 1) v K:=Eq.trans (b:=z_x (fun x0 x1 x2 x3 k0 k1=>spec_LangTokens_L0r N (fun y0 y1 y2 y3=>spec_LangTokens_L0 N n y0 y1 y2 y3 k0 k1) k0 k1 x0 x1 x2 x3) v K) (by kernel_rfl) (by unfold g_x z_x; rw [spec_LangTokens_L0.succ])
theorem o_x (N:Nat):PieceOK gd P (i_y N) n_x (q_x N) :=
 piece_loop hE hP (hct7 N) (AllOK.of (by kernel_rfl) (.cons (o_w N) .nil)) (fun n {_}=>g_x N n) (fun _ _=>spec_LangTokens_L0.zero ..) (fun n {_} v K=>e_x N n v K) N
noncomputable def p_y:Pt:=⟨[(.i .str)],[]⟩
noncomputable def z_y (F:type_of% @spec_LangTokens) (v:p_y.V) (K:KF α):Option α:=F N v.1.1 (fun o0_0 o0_1=>K (.tuple [(.own 0),(.iv (.int .i64) o0_0)]) [(.arr 44 (.pair (.int .i64) (.pair .str .unit)) o0_1 false)])
noncomputable def g_y (v:p_y.V) (K:KF α):Option α:=z_y N @spec_LangTokens v K
theorem e_y (v:p_y.V) (K:KF α):runFn env (ct7 N) (i_y N) Tryd.f6 (SP.mkL p_y.slots v.1) (BP.mkL p_y.store v.2) K=g_y N v K:=Eq.trans (b:=z_y N @spec_LangTokens.b v K) (by kernel_rfl) (by unfold g_y; rw [spec_LangTokens.eq])
theorem o_y (N:Nat):CalleeOK gd P 6 (mkCallee false p_y (g_y N)) :=
 callee_ok fun v K h=>fn_snd hE hP (hct7 N) Tryd.func6 (by kernel_rfl) (body:=b_y) (by kernel_rfl) (by kernel_rfl) (AllOK.of (by kernel_rfl) (.cons (o_x N) .nil)) (loans:=BP.mkL p_y.store v.2) rfl ((e_y N v K).trans h)
noncomputable def ct8 (N:Nat):CT:=(6,(mkCallee false p_y (g_y N)))::ct7 N
theorem hct8 (N:Nat):CTOK gd P (ct8 N):=.cons (o_y N) (hct7 N)

noncomputable def p_z:Pt:=⟨[.i .str,.i .str],[]⟩
noncomputable def g_z (N:Nat) {α:Type} (v:p_z.V) (K:HV→List Blk→Option α):Option α:=internal_stringslite_Index N v.1.1 v.1.2.1 (fun x=>K (.iv (.int .i64) x) [])
theorem o_z (N:Nat):CalleeOK gd P 94 (mkCallee false p_z (g_z N)) :=
 callee_index (gd:=gd) lays219 (by kernel_rfl) Tryd.func94 (by kernel_rfl) (by kernel_rfl) N
noncomputable def ct9 (N:Nat):CT:=(94,(mkCallee false p_z (g_z N)))::ct8 N
theorem hct9 (N:Nat):CTOK gd P (ct9 N):=.cons (o_z N) (hct8 N)

noncomputable def i_A (N:Nat):Fi:={ loans:=0,owns:=true,results:=[.tmp 4,.tmp 5,.tmp 6],rtys:=[9,9,4],blks:=[],regs:=[],masks:=[] }
noncomputable def b_A:Code:=match Tryd.f57.body with | some c=>c | none=>.skip
noncomputable def p_A:Pt:=⟨[(.i .str),(.i .str)],[]⟩
noncomputable def z_A (F:type_of% @internal_stringslite_Cut) (v:p_A.V) (K:KF α):Option α:=F N v.1.1 v.1.2.1 (fun o0_0 o0_1 o0_2=>K (.tuple [(.iv .str o0_0),(.iv .str o0_1),(.iv .bool o0_2)]) [])
noncomputable def g_A (v:p_A.V) (K:KF α):Option α:=z_A N @internal_stringslite_Cut v K
theorem e_A (v:p_A.V) (K:KF α):runFn env (ct9 N) (i_A N) Tryd.f57 (SP.mkL p_A.slots v.1) (BP.mkL p_A.store v.2) K=g_A N v K:=Eq.trans (b:=z_A N @internal_stringslite_Cut.b v K) (by kernel_rfl) (by unfold g_A; rw [internal_stringslite_Cut.eq])
theorem o_A (N:Nat):CalleeOK gd P 57 (mkCallee false p_A (g_A N)) :=
 callee_ok fun v K h=>fn_snd hE hP (hct9 N) Tryd.func57 (by kernel_rfl) (body:=b_A) (by kernel_rfl) (by kernel_rfl) (AllOK.of (by kernel_rfl) .nil) (loans:=BP.mkL p_A.store v.2) rfl ((e_A N v K).trans h)
noncomputable def ct10 (N:Nat):CT:=(57,(mkCallee false p_A (g_A N)))::ct9 N
theorem hct10 (N:Nat):CTOK gd P (ct10 N):=.cons (o_A N) (hct9 N)

noncomputable def i_B (N:Nat):Fi:={ loans:=0,owns:=true,results:=[.tmp 4,.tmp 5,.tmp 6],rtys:=[9,9,4],blks:=[],regs:=[],masks:=[] }
noncomputable def b_B:Code:=match Tryd.f26.body with | some c=>c | none=>.skip
noncomputable def p_B:Pt:=⟨[(.i .str),(.i .str)],[]⟩
noncomputable def z_B (F:type_of% @strings_Cut) (v:p_B.V) (K:KF α):Option α:=F N v.1.1 v.1.2.1 (fun o0_0 o0_1 o0_2=>K (.tuple [(.iv .str o0_0),(.iv .str o0_1),(.iv .bool o0_2)]) [])
noncomputable def g_B (v:p_B.V) (K:KF α):Option α:=z_B N @strings_Cut v K
theorem e_B (v:p_B.V) (K:KF α):runFn env (ct10 N) (i_B N) Tryd.f26 (SP.mkL p_B.slots v.1) (BP.mkL p_B.store v.2) K=g_B N v K:=Eq.trans (b:=z_B N @strings_Cut.b v K) (by kernel_rfl) (by unfold g_B; rw [strings_Cut.eq])
theorem o_B (N:Nat):CalleeOK gd P 26 (mkCallee false p_B (g_B N)) :=
 callee_ok fun v K h=>fn_snd hE hP (hct10 N) Tryd.func26 (by kernel_rfl) (body:=b_B) (by kernel_rfl) (by kernel_rfl) (AllOK.of (by kernel_rfl) .nil) (loans:=BP.mkL p_B.store v.2) rfl ((e_B N v K).trans h)
noncomputable def ct11 (N:Nat):CT:=(26,(mkCallee false p_B (g_B N)))::ct10 N
theorem hct11 (N:Nat):CTOK gd P (ct11 N):=.cons (o_B N) (hct10 N)

noncomputable def i_C (N:Nat):Fi:={ loans:=0,owns:=true,results:=[.tmp 4],rtys:=[4],blks:=[],regs:=[],masks:=[] }
noncomputable def b_C:Code:=match Tryd.f95.body with | some c=>c | none=>.skip
noncomputable def p_C:Pt:=⟨[(.i .str),(.i .str)],[]⟩
noncomputable def z_C (F:type_of% @internal_stringslite_HasPrefix) (v:p_C.V) (K:KF α):Option α:=F N v.1.1 v.1.2.1 (fun o0_0=>K (.iv .bool o0_0) [])
noncomputable def g_C (v:p_C.V) (K:KF α):Option α:=z_C N @internal_stringslite_HasPrefix v K
theorem e_C (v:p_C.V) (K:KF α):runFn env (ct11 N) (i_C N) Tryd.f95 (SP.mkL p_C.slots v.1) (BP.mkL p_C.store v.2) K=g_C N v K:=Eq.trans (b:=z_C N @internal_stringslite_HasPrefix.b v K) (by kernel_rfl) (by unfold g_C; rw [internal_stringslite_HasPrefix.eq])
theorem o_C (N:Nat):CalleeOK gd P 95 (mkCallee false p_C (g_C N)) :=
 callee_ok fun v K h=>fn_snd hE hP (hct11 N) Tryd.func95 (by kernel_rfl) (body:=b_C) (by kernel_rfl) (by kernel_rfl) (AllOK.of (by kernel_rfl) .nil) (loans:=BP.mkL p_C.store v.2) rfl ((e_C N v K).trans h)
noncomputable def ct12 (N:Nat):CT:=(95,(mkCallee false p_C (g_C N)))::ct11 N
theorem hct12 (N:Nat):CTOK gd P (ct12 N):=.cons (o_C N) (hct11 N)

noncomputable def i_D (N:Nat):Fi:={ loans:=0,owns:=true,results:=[.tmp 4],rtys:=[4],blks:=[],regs:=[],masks:=[] }
noncomputable def b_D:Code:=match Tryd.f58.body with | some c=>c | none=>.skip
noncomputable def p_D:Pt:=⟨[(.i .str),(.i .str)],[]⟩
noncomputable def z_D (F:type_of% @strings_HasPrefix) (v:p_D.V) (K:KF α):Option α:=F N v.1.1 v.1.2.1 (fun o0_0=>K (.iv .bool o0_0) [])
noncomputable def g_D (v:p_D.V) (K:KF α):Option α:=z_D N @strings_HasPrefix v K
theorem e_D (v:p_D.V) (K:KF α):runFn env (ct12 N) (i_D N) Tryd.f58 (SP.mkL p_D.slots v.1) (BP.mkL p_D.store v.2) K=g_D N v K:=Eq.trans (b:=z_D N @strings_HasPrefix.b v K) (by kernel_rfl) (by unfold g_D; rw [strings_HasPrefix.eq])
theorem o_D (N:Nat):CalleeOK gd P 58 (mkCallee false p_D (g_D N)) :=
 callee_ok fun v K h=>fn_snd hE hP (hct12 N) Tryd.func58 (by kernel_rfl) (body:=b_D) (by kernel_rfl) (by kernel_rfl) (AllOK.of (by kernel_rfl) .nil) (loans:=BP.mkL p_D.store v.2) rfl ((e_D N v K).trans h)
noncomputable def ct13 (N:Nat):CT:=(58,(mkCallee false p_D (g_D N)))::ct12 N
theorem hct13 (N:Nat):CTOK gd P (ct13 N):=.cons (o_D N) (hct12 N)

noncomputable def p_E:Pt:=⟨[.i .str,.i (.int .u8)],[]⟩
noncomputable def g_E (N:Nat) {α:Type} (v:p_E.V) (K:HV→List Blk→Option α):Option α:=internal_stringslite_IndexByte N v.1.1 v.1.2.1 (fun x=>K (.iv (.int .i64) x) [])
theorem o_E (N:Nat):CalleeOK gd P 96 (mkCallee false p_E (g_E N)) :=
 callee_indexByte (gd:=gd) lays219 (by kernel_rfl) Tryd.func96 (by kernel_rfl) (by kernel_rfl) N
noncomputable def ct14 (N:Nat):CT:=(96,(mkCallee false p_E (g_E N)))::ct13 N
theorem hct14 (N:Nat):CTOK gd P (ct14 N):=.cons (o_E N) (hct13 N)

noncomputable def i_F (N:Nat):Fi:={ loans:=0,owns:=true,results:=[.tmp 4],rtys:=[3],blks:=[],regs:=[],masks:=[] }
noncomputable def b_F:Code:=match Tryd.f59.body with | some c=>c | none=>.skip
noncomputable def p_F:Pt:=⟨[(.i .str),(.i (.int .u8))],[]⟩
noncomputable def z_F (F:type_of% @strings_IndexByte) (v:p_F.V) (K:KF α):Option α:=F N v.1.1 v.1.2.1 (fun o0_0=>K (.iv (.int .i64) o0_0) [])
noncomputable def g_F (v:p_F.V) (K:KF α):Option α:=z_F N @strings_IndexByte v K
theorem e_F (v:p_F.V) (K:KF α):runFn env (ct14 N) (i_F N) Tryd.f59 (SP.mkL p_F.slots v.1) (BP.mkL p_F.store v.2) K=g_F N v K:=Eq.trans (b:=z_F N @strings_IndexByte.b v K) (by kernel_rfl) (by unfold g_F; rw [strings_IndexByte.eq])
theorem o_F (N:Nat):CalleeOK gd P 59 (mkCallee false p_F (g_F N)) :=
 callee_ok fun v K h=>fn_snd hE hP (hct14 N) Tryd.func59 (by kernel_rfl) (body:=b_F) (by kernel_rfl) (by kernel_rfl) (AllOK.of (by kernel_rfl) .nil) (loans:=BP.mkL p_F.store v.2) rfl ((e_F N v K).trans h)
noncomputable def ct15 (N:Nat):CT:=(59,(mkCallee false p_F (g_F N)))::ct14 N
theorem hct15 (N:Nat):CTOK gd P (ct15 N):=.cons (o_F N) (hct14 N)

noncomputable def i_G (N:Nat):Fi:={ loans:=0,owns:=true,results:=[.tmp 2],rtys:=[9],blks:=[],regs:=[],masks:=[] }
noncomputable def b_G:Code:=match Tryd.f27.body with | some c=>c | none=>.skip
noncomputable def p_G:Pt:=⟨[(.i .str)],[]⟩
noncomputable def z_G (F:type_of% @impl_signOf) (v:p_G.V) (K:KF α):Option α:=F N v.1.1 (fun o0_0=>K (.iv .str o0_0) [])
noncomputable def g_G (v:p_G.V) (K:KF α):Option α:=z_G N @impl_signOf v K
theorem e_G (v:p_G.V) (K:KF α):runFn env (ct15 N) (i_G N) Tryd.f27 (SP.mkL p_G.slots v.1) (BP.mkL p_G.store v.2) K=g_G N v K:=Eq.trans (b:=z_G N @impl_signOf.b v K) (by kernel_rfl) (by unfold g_G; rw [impl_signOf.eq])
theorem o_G (N:Nat):CalleeOK gd P 27 (mkCallee false p_G (g_G N)) :=
 callee_ok fun v K h=>fn_snd hE hP (hct15 N) Tryd.func27 (by kernel_rfl) (body:=b_G) (by kernel_rfl) (by kernel_rfl) (AllOK.of (by kernel_rfl) .nil) (loans:=BP.mkL p_G.store v.2) rfl ((e_G N v K).trans h)
noncomputable def ct16 (N:Nat):CT:=(27,(mkCallee false p_G (g_G N)))::ct15 N
theorem hct16 (N:Nat):CTOK gd P (ct16 N):=.cons (o_G N) (hct15 N)

noncomputable def i_H (N:Nat):Fi:={ loans:=0,owns:=true,results:=[.tmp 2],rtys:=[4],blks:=[],regs:=[],masks:=[] }
noncomputable def b_H:Code:=match Tryd.f28.body with | some c=>c | none=>.skip
noncomputable def p_H:Pt:=⟨[(.i (.int .u8))],[]⟩
noncomputable def z_H (F:type_of% @impl_isLetter) (v:p_H.V) (K:KF α):Option α:=F N v.1.1 (fun o0_0=>K (.iv .bool o0_0) [])
noncomputable def g_H (v:p_H.V) (K:KF α):Option α:=z_H N @impl_isLetter v K
theorem e_H (v:p_H.V) (K:KF α):runFn env (ct16 N) (i_H N) Tryd.f28 (SP.mkL p_H.slots v.1) (BP.mkL p_H.store v.2) K=g_H N v K:=Eq.trans (b:=z_H N @impl_isLetter.b v K) (by kernel_rfl) (by unfold g_H; rw [impl_isLetter.eq])
theorem o_H (N:Nat):CalleeOK gd P 28 (mkCallee false p_H (g_H N)) :=
 callee_ok fun v K h=>fn_snd hE hP (hct16 N) Tryd.func28 (by kernel_rfl) (body:=b_H) (by kernel_rfl) (by kernel_rfl) (AllOK.of (by kernel_rfl) .nil) (loans:=BP.mkL p_H.store v.2) rfl ((e_H N v K).trans h)
noncomputable def ct17 (N:Nat):CT:=(28,(mkCallee false p_H (g_H N)))::ct16 N
theorem hct17 (N:Nat):CTOK gd P (ct17 N):=.cons (o_H N) (hct16 N)

noncomputable def i_I (N:Nat):Fi:={ loans:=0,owns:=true,results:=[.tmp 2],rtys:=[4],blks:=[],regs:=[],masks:=[] }
noncomputable def b_I:Code:=match Tryd.f29.body with | some c=>c | none=>.skip
noncomputable def p_I:Pt:=⟨[(.i (.int .u8))],[]⟩
noncomputable def z_I (F:type_of% @impl_isFigure) (v:p_I.V) (K:KF α):Option α:=F N v.1.1 (fun o0_0=>K (.iv .bool o0_0) [])
noncomputable def g_I (v:p_I.V) (K:KF α):Option α:=z_I N @impl_isFigure v K
theorem e_I (v:p_I.V) (K:KF α):runFn env (ct17 N) (i_I N) Tryd.f29 (SP.mkL p_I.slots v.1) (BP.mkL p_I.store v.2) K=g_I N v K:=Eq.trans (b:=z_I N @impl_isFigure.b v K) (by kernel_rfl) (by unfold g_I; rw [impl_isFigure.eq])
theorem o_I (N:Nat):CalleeOK gd P 29 (mkCallee false p_I (g_I N)) :=
 callee_ok fun v K h=>fn_snd hE hP (hct17 N) Tryd.func29 (by kernel_rfl) (body:=b_I) (by kernel_rfl) (by kernel_rfl) (AllOK.of (by kernel_rfl) .nil) (loans:=BP.mkL p_I.store v.2) rfl ((e_I N v K).trans h)
noncomputable def ct18 (N:Nat):CT:=(29,(mkCallee false p_I (g_I N)))::ct17 N
theorem hct18 (N:Nat):CTOK gd P (ct18 N):=.cons (o_I N) (hct17 N)

noncomputable def p_J:Pt:=⟨(.i .str)::.u::.u::(.i (.int .i64))::ups 43 ([]),[]⟩
noncomputable def z_J (F:type_of% (@impl_wordLength_L0 α 0 0)) (v:p_J.V) (K:KO α):Option α:=F v.1.1 v.1.2.2.2.1 (fun o0_0=>K (.normal ⟨U::U::U::(.iv (.int .i64) o0_0)::us 43 ([]),[]⟩))
noncomputable def g_J (n:Nat) (v:p_J.V) (K:KO α):Option α:=z_J (impl_wordLength_L0 N n) v K
noncomputable def q_J (N:Nat):Piece:=(mkPiece 65 p_J (g_J N N))
noncomputable def i_K (N:Nat):Fi:={ loans:=0,owns:=true,results:=[.tmp 2],rtys:=[3],blks:=[(0,q_J N)],regs:=[],masks:=[(0,64)] }
noncomputable def b_K:Code:=match Tryd.f30.body with | some c=>c | none=>.skip
noncomputable def n_J:Code:=(.block 0 (.loop (codeAt b_K [1,1,0,0,0])))
theorem e_J (n:Nat) (v:p_J.V) (K:KO α):runRound env (ct18 N) (i_K N) 65 (mkPiece 65 p_J (g_J N n)).run n_J (p_J.mk' v) K=g_J N (n + 1) v K:=Eq.trans (b:=z_J (fun x0 x1 k0=>impl_wordLength_L0r N (fun y0 y1=>impl_wordLength_L0 N n y0 y1 k0) k0 x0 x1) v K) (by kernel_rfl) (by unfold g_J z_J; rw [impl_wordLength_L0.succ])
theorem o_J (N:Nat):PieceOK gd P (i_K N) n_J (q_J N) :=
 piece_loop hE hP (hct18 N) (AllOK.of (by kernel_rfl) .nil) (fun n {_}=>g_J N n) (fun _ _=>impl_wordLength_L0.zero ..) (fun n {_} v K=>e_J N n v K) N
noncomputable def p_K:Pt:=⟨[(.i .str)],[]⟩
noncomputable def z_K (F:type_of% @impl_wordLength) (v:p_K.V) (K:KF α):Option α:=F N v.1.1 (fun o0_0=>K (.iv (.int .i64) o0_0) [])
noncomputable def g_K (v:p_K.V) (K:KF α):Option α:=z_K N @impl_wordLength v K
theorem e_K (v:p_K.V) (K:KF α):runFn env (ct18 N) (i_K N) Tryd.f30 (SP.mkL p_K.slots v.1) (BP.mkL p_K.store v.2) K=g_K N v K:=Eq.trans (b:=z_K N @impl_wordLength.b v K) (by kernel_rfl) (by unfold g_K; rw [impl_wordLength.eq])
theorem o_K (N:Nat):CalleeOK gd P 30 (mkCallee false p_K (g_K N)) :=
 callee_ok fun v K h=>fn_snd hE hP (hct18 N) Tryd.func30 (by kernel_rfl) (body:=b_K) (by kernel_rfl) (by kernel_rfl) (AllOK.of (by kernel_rfl) (.cons (o_J N) .nil)) (loans:=BP.mkL p_K.store v.2) rfl ((e_K N v K).trans h)
noncomputable def ct19 (N:Nat):CT:=(30,(mkCallee false p_K (g_K N)))::ct18 N
theorem hct19 (N:Nat):CTOK gd P (ct19 N):=.cons (o_K N) (hct18 N)

noncomputable def p_L:Pt:=⟨(.i .str)::ups 4 ((.i (.int .i64))::(.i (.int .i64))::ups 15 ([])),[]⟩
noncomputable def z_L (F:type_of% (@impl_isDigits_L0 α 0 0)) (v:p_L.V) (K:KO α):Option α:=F v.1.1 (nx 4 v.1.2).1 (nx 4 v.1.2).2.1 (fun o0_0=>K (.ret (.iv .bool o0_0) [])) (fun o1_0=>K (.normal ⟨(.iv .str o1_0)::us 21 ([]),[]⟩))
noncomputable def g_L (n:Nat) (v:p_L.V) (K:KO α):Option α:=z_L (impl_isDigits_L0 N n) v K
noncomputable def q_L (N:Nat):Piece:=(mkPiece 5121 p_L (g_L N N))
noncomputable def i_M (N:Nat):Fi:={ loans:=0,owns:=true,results:=[.tmp 2],rtys:=[4],blks:=[(0,q_L N)],regs:=[],masks:=[(0,1)] }
noncomputable def b_M:Code:=match Tryd.f91.body with | some c=>c | none=>.skip
noncomputable def n_L:Code:=(.block 0 (.loop (codeAt b_M [1,0,1,0,0])))
theorem e_L (n:Nat) (v:p_L.V) (K:KO α):runRound env (ct19 N) (i_M N) 5121 (mkPiece 5121 p_L (g_L N n)).run n_L (p_L.mk' v) K=g_L N (n + 1) v K:=Eq.trans (b:=z_L (fun x0 x1 x2 k0 k1=>impl_isDigits_L0r N (fun y0 y1 y2=>impl_isDigits_L0 N n y0 y1 y2 k0 k1) k0 k1 x0 x1 x2) v K) (by kernel_rfl) (by unfold g_L z_L; rw [impl_isDigits_L0.succ])
theorem o_L (N:Nat):PieceOK gd P (i_M N) n_L (q_L N) :=
 piece_loop hE hP (hct19 N) (AllOK.of (by kernel_rfl) .nil) (fun n {_}=>g_L N n) (fun _ _=>impl_isDigits_L0.zero ..) (fun n {_} v K=>e_L N n v K) N
noncomputable def p_M:Pt:=⟨[(.i .str)],[]⟩
noncomputable def z_M (F:type_of% @impl_isDigits) (v:p_M.V) (K:KF α):Option α:=F N v.1.1 (fun o0_0=>K (.iv .bool o0_0) [])
noncomputable def g_M (v:p_M.V) (K:KF α):Option α:=z_M N @impl_isDigits v K
theorem e_M (v:p_M.V) (K:KF α):runFn env (ct19 N) (i_M N) Tryd.f91 (SP.mkL p_M.slots v.1) (BP.mkL p_M.store v.2) K=g_M N v K:=Eq.trans (b:=z_M N @impl_isDigits.b v K) (by kernel_rfl) (by unfold g_M; rw [impl_isDigits.eq])
theorem o_M (N:Nat):CalleeOK gd P 91 (mkCallee false p_M (g_M N)) :=
 callee_ok fun v K h=>fn_snd hE hP (hct19 N) Tryd.func91 (by kernel_rfl) (body:=b_M) (by kernel_rfl) (by kernel_rfl) (AllOK.of (by kernel_rfl) (.cons (o_L N) .nil)) (loans:=BP.mkL p_M.store v.2) rfl ((e_M N v K).trans h)
noncomputable def ct20 (N:Nat):CT:=(91,(mkCallee false p_M (g_M N)))::ct19 N
theorem hct20 (N:Nat):CTOK gd P (ct20 N):=.cons (o_M N) (hct19 N)

noncomputable def i_N (N:Nat):Fi:={ loans:=0,owns:=true,results:=[.tmp 2],rtys:=[4],blks:=[],regs:=[],masks:=[] }
noncomputable def b_N:Code:=match Tryd.f116.body with | some c=>c | none=>.skip
noncomputable def p_N:Pt:=⟨[(.i .str)],[]⟩
noncomputable def z_N (F:type_of% @impl_wholeDigits) (v:p_N.V) (K:KF α):Option α:=F N v.1.1 (fun o0_0=>K (.iv .bool o0_0) [])
noncomputable def g_N (v:p_N.V) (K:KF α):Option α:=z_N N @impl_wholeDigits v K
theorem e_N (v:p_N.V) (K:KF α):runFn env (ct20 N) (i_N N) Tryd.f116 (SP.mkL p_N.slots v.1) (BP.mkL p_N.store v.2) K=g_N N v K:=Eq.trans (b:=z_N N @impl_wholeDigits.b v K) (by kernel_rfl) (by unfold g_N; rw [impl_wholeDigits.eq])
theorem o_N (N:Nat):CalleeOK gd P 116 (mkCallee false p_N (g_N N)) :=
 callee_ok fun v K h=>fn_snd hE hP (hct20 N) Tryd.func116 (by kernel_rfl) (body:=b_N) (by kernel_rfl) (by kernel_rfl) (AllOK.of (by kernel_rfl) .nil) (loans:=BP.mkL p_N.store v.2) rfl ((e_N N v K).trans h)
noncomputable def ct21 (N:Nat):CT:=(116,(mkCallee false p_N (g_N N)))::ct20 N
theorem hct21 (N:Nat):CTOK gd P (ct21 N):=.cons (o_N N) (hct20 N)

noncomputable def i_O (N:Nat):Fi:={ loans:=0,owns:=true,results:=[.tmp 4,.tmp 5],rtys:=[9,4],blks:=[],regs:=[],masks:=[] }
noncomputable def b_O:Code:=match Tryd.f90.body with | some c=>c | none=>.skip
noncomputable def p_O:Pt:=⟨[(.i .str),(.i .str)],[]⟩
noncomputable def z_O (F:type_of% @internal_stringslite_CutPrefix) (v:p_O.V) (K:KF α):Option α:=F N v.1.1 v.1.2.1 (fun o0_0 o0_1=>K (.tuple [(.iv .str o0_0),(.iv .bool o0_1)]) [])
noncomputable def g_O (v:p_O.V) (K:KF α):Option α:=z_O N @internal_stringslite_CutPrefix v K
theorem e_O (v:p_O.V) (K:KF α):runFn env (ct21 N) (i_O N) Tryd.f90 (SP.mkL p_O.slots v.1) (BP.mkL p_O.store v.2) K=g_O N v K:=Eq.trans (b:=z_O N @internal_stringslite_CutPrefix.b v K) (by kernel_rfl) (by unfold g_O; rw [internal_stringslite_CutPrefix.eq])
theorem o_O (N:Nat):CalleeOK gd P 90 (mkCallee false p_O (g_O N)) :=
 callee_ok fun v K h=>fn_snd hE hP (hct21 N) Tryd.func90 (by kernel_rfl) (body:=b_O) (by kernel_rfl) (by kernel_rfl) (AllOK.of (by kernel_rfl) .nil) (loans:=BP.mkL p_O.store v.2) rfl ((e_O N v K).trans h)
noncomputable def ct22 (N:Nat):CT:=(90,(mkCallee false p_O (g_O N)))::ct21 N
theorem hct22 (N:Nat):CTOK gd P (ct22 N):=.cons (o_O N) (hct21 N)

noncomputable def i_P (N:Nat):Fi:={ loans:=0,owns:=true,results:=[.tmp 4,.tmp 5],rtys:=[9,4],blks:=[],regs:=[],masks:=[] }
noncomputable def b_P:Code:=match Tryd.f51.body with | some c=>c | none=>.skip
noncomputable def p_P:Pt:=⟨[(.i .str),(.i .str)],[]⟩
noncomputable def z_P (F:type_of% @strings_CutPrefix) (v:p_P.V) (K:KF α):Option α:=F N v.1.1 v.1.2.1 (fun o0_0 o0_1=>K (.tuple [(.iv .str o0_0),(.iv .bool o0_1)]) [])
noncomputable def g_P (v:p_P.V) (K:KF α):Option α:=z_P N @strings_CutPrefix v K
theorem e_P (v:p_P.V) (K:KF α):runFn env (ct22 N) (i_P N) Tryd.f51 (SP.mkL p_P.slots v.1) (BP.mkL p_P.store v.2) K=g_P N v K:=Eq.trans (b:=z_P N @strings_CutPrefix.b v K) (by kernel_rfl) (by unfold g_P; rw [strings_CutPrefix.eq])
theorem o_P (N:Nat):CalleeOK gd P 51 (mkCallee false p_P (g_P N)) :=
 callee_ok fun v K h=>fn_snd hE hP (hct22 N) Tryd.func51 (by kernel_rfl) (body:=b_P) (by kernel_rfl) (by kernel_rfl) (AllOK.of (by kernel_rfl) .nil) (loans:=BP.mkL p_P.store v.2) rfl ((e_P N v K).trans h)
noncomputable def ct23 (N:Nat):CT:=(51,(mkCallee false p_P (g_P N)))::ct22 N
theorem hct23 (N:Nat):CTOK gd P (ct23 N):=.cons (o_P N) (hct22 N)

noncomputable def p_Q:Pt:=⟨[.i .str],[]⟩
noncomputable def g_Q (N:Nat) {α:Type} (v:p_Q.V) (K:HV→List Blk→Option α):Option α:=strconv_Atoi N v.1.1 (fun x=>K (.tuple [.iv (.int .i64) x,.er false]) []) (fun x=>K (.tuple [.iv (.int .i64) x,.er true]) [])
theorem o_Q (N:Nat):CalleeOK gd P 117 (mkCallee false p_Q (g_Q N)) :=
 callee_atoi (gd:=gd) lays172 (by kernel_rfl) Tryd.func117 (by kernel_rfl) (by kernel_rfl) (g1:=2) (g2:=3) (by kernel_rfl) (by kernel_rfl) (fun w h=>errGd_err (.head _) h) (fun w h=>errGd_err (.tail _ (.head _)) h) N
noncomputable def ct24 (N:Nat):CT:=(117,(mkCallee false p_Q (g_Q N)))::ct23 N
theorem hct24 (N:Nat):CTOK gd P (ct24 N):=.cons (o_Q N) (hct23 N)

noncomputable def p_R:Pt:=⟨ups 9 ((.i .str)::(.i .str)::.u::.u::(.i .bool)::(.i (.int .i64))::ups 67 ([])),[]⟩
noncomputable def z_R (F:type_of% @impl_literal_J11) (v:p_R.V) (K:KO α):Option α:=F N (nx 9 v.1).1 (nx 9 v.1).2.1 (nx 9 v.1).2.2.2.2.1 (nx 9 v.1).2.2.2.2.2.1 (fun o0_0 o0_1 o0_2=>K (.normal ⟨us 9 ((.iv .str o0_0)::(.iv .str o0_1)::U::U::U::(.iv (.int .i64) o0_2)::us 67 ([])),[]⟩))
noncomputable def g_R (v:p_R.V) (K:KO α):Option α:=z_R N @impl_literal_J11 v K
noncomputable def q_R (N:Nat):Piece:=(mkPiece 336855040 p_R (g_R N))
noncomputable def i_S (N:Nat):Fi:={ loans:=0,owns:=true,results:=[.tmp 2,.tmp 3,.tmp 4,.tmp 5],rtys:=[9,9,3,4],blks:=[],regs:=[(11,q_R N)],masks:=[] }
noncomputable def b_S:Code:=match Tryd.f97.body with | some c=>c | none=>.skip
noncomputable def n_R:Code:=(.seq (codeAt b_S [1,1,1,1,1,1,1,1,0,0]) (codeAt b_S [1,1,1,1,1,1,1,1,0,1]))
theorem e_R (v:p_R.V) (K:KO α):runSeq env (ct24 N) (i_S N) 269746176 n_R (p_R.mk' v) K=g_R N v K:=Eq.trans (b:=z_R N @impl_literal_J11.b v K) (by kernel_rfl) (by unfold g_R; rw [impl_literal_J11.eq])
theorem o_R (N:Nat):PieceOK gd P (i_S N) n_R (q_R N) :=
 piece_seq hE hP (hct24 N) (AllOK.of (by kernel_rfl) .nil) (AllOK.of (by kernel_rfl) .nil) (e_R N)
noncomputable def p_S:Pt:=⟨[(.i .str)],[]⟩
noncomputable def z_S (F:type_of% @impl_literal) (v:p_S.V) (K:KF α):Option α:=F N v.1.1 (fun o0_0 o0_1 o0_2 o0_3=>K (.tuple [(.iv .str o0_0),(.iv .str o0_1),(.iv (.int .i64) o0_2),(.iv .bool o0_3)]) [])
noncomputable def g_S (v:p_S.V) (K:KF α):Option α:=z_S N @impl_literal v K
theorem e_S (v:p_S.V) (K:KF α):runFn env (ct24 N) (i_S N) Tryd.f97 (SP.mkL p_S.slots v.1) (BP.mkL p_S.store v.2) K=g_S N v K:=Eq.trans (b:=z_S N @impl_literal.b v K) (by kernel_rfl) (by unfold g_S; rw [impl_literal.eq])
theorem o_S (N:Nat):CalleeOK gd P 97 (mkCallee false p_S (g_S N)) :=
 callee_ok fun v K h=>fn_snd hE hP (hct24 N) Tryd.func97 (by kernel_rfl) (body:=b_S) (by kernel_rfl) (by kernel_rfl) (AllOK.of (by kernel_rfl) (.cons (o_R N) .nil)) (loans:=BP.mkL p_S.store v.2) rfl ((e_S N v K).trans h)
noncomputable def ct25 (N:Nat):CT:=(97,(mkCallee false p_S (g_S N)))::ct24 N
theorem hct25 (N:Nat):CTOK gd P (ct25 N):=.cons (o_S N) (hct24 N)

noncomputable def i_T (N:Nat):Fi:={ loans:=0,owns:=true,results:=[.tmp 2],rtys:=[4],blks:=[],regs:=[],masks:=[] }
noncomputable def b_T:Code:=match Tryd.f60.body with | some c=>c | none=>.skip
noncomputable def p_T:Pt:=⟨[(.i .str)],[]⟩
noncomputable def z_T (F:type_of% @impl_DecOk) (v:p_T.V) (K:KF α):Option α:=F N v.1.1 (fun o0_0=>K (.iv .bool o0_0) [])
noncomputable def g_T (v:p_T.V) (K:KF α):Option α:=z_T N @impl_DecOk v K
theorem e_T (v:p_T.V) (K:KF α):runFn env (ct25 N) (i_T N) Tryd.f60 (SP.mkL p_T.slots v.1) (BP.mkL p_T.store v.2) K=g_T N v K:=Eq.trans (b:=z_T N @impl_DecOk.b v K) (by kernel_rfl) (by unfold g_T; rw [impl_DecOk.eq])
theorem o_T (N:Nat):CalleeOK gd P 60 (mkCallee false p_T (g_T N)) :=
 callee_ok fun v K h=>fn_snd hE hP (hct25 N) Tryd.func60 (by kernel_rfl) (body:=b_T) (by kernel_rfl) (by kernel_rfl) (AllOK.of (by kernel_rfl) .nil) (loans:=BP.mkL p_T.store v.2) rfl ((e_T N v K).trans h)
noncomputable def ct26 (N:Nat):CT:=(60,(mkCallee false p_T (g_T N)))::ct25 N
theorem hct26 (N:Nat):CTOK gd P (ct26 N):=.cons (o_T N) (hct25 N)

noncomputable def i_U (N:Nat):Fi:={ loans:=0,owns:=true,results:=[.tmp 2],rtys:=[4],blks:=[],regs:=[],masks:=[] }
noncomputable def b_U:Code:=match Tryd.f31.body with | some c=>c | none=>.skip
noncomputable def p_U:Pt:=⟨[(.i .str)],[]⟩
noncomputable def z_U (F:type_of% @impl_LangNumOk) (v:p_U.V) (K:KF α):Option α:=F N v.1.1 (fun o0_0=>K (.iv .bool o0_0) [])
noncomputable def g_U (v:p_U.V) (K:KF α):Option α:=z_U N @impl_LangNumOk v K
theorem e_U (v:p_U.V) (K:KF α):runFn env (ct26 N) (i_U N) Tryd.f31 (SP.mkL p_U.slots v.1) (BP.mkL p_U.store v.2) K=g_U N v K:=Eq.trans (b:=z_U N @impl_LangNumOk.b v K) (by kernel_rfl) (by unfold g_U; rw [impl_LangNumOk.eq])
theorem o_U (N:Nat):CalleeOK gd P 31 (mkCallee false p_U (g_U N)) :=
 callee_ok fun v K h=>fn_snd hE hP (hct26 N) Tryd.func31 (by kernel_rfl) (body:=b_U) (by kernel_rfl) (by kernel_rfl) (AllOK.of (by kernel_rfl) .nil) (loans:=BP.mkL p_U.store v.2) rfl ((e_U N v K).trans h)
noncomputable def ct27 (N:Nat):CT:=(31,(mkCallee false p_U (g_U N)))::ct26 N
theorem hct27 (N:Nat):CTOK gd P (ct27 N):=.cons (o_U N) (hct26 N)

noncomputable def i_V (N:Nat):Fi:={ loans:=0,owns:=true,results:=[.tmp 6],rtys:=[4],blks:=[],regs:=[],masks:=[] }
noncomputable def b_V:Code:=match Tryd.f61.body with | some c=>c | none=>.skip
noncomputable def p_V:Pt:=⟨[(.i (.int .i64)),(.i (.int .i64)),(.i (.int .i64))],[]⟩
noncomputable def z_V (F:type_of% @impl_in) (v:p_V.V) (K:KF α):Option α:=F N v.1.1 v.1.2.1 v.1.2.2.1 (fun o0_0=>K (.iv .bool o0_0) [])
noncomputable def g_V (v:p_V.V) (K:KF α):Option α:=z_V N @impl_in v K
theorem e_V (v:p_V.V) (K:KF α):runFn env (ct27 N) (i_V N) Tryd.f61 (SP.mkL p_V.slots v.1) (BP.mkL p_V.store v.2) K=g_V N v K:=Eq.trans (b:=z_V N @impl_in.b v K) (by kernel_rfl) (by unfold g_V; rw [impl_in.eq])
theorem o_V (N:Nat):CalleeOK gd P 61 (mkCallee false p_V (g_V N)) :=
 callee_ok fun v K h=>fn_snd hE hP (hct27 N) Tryd.func61 (by kernel_rfl) (body:=b_V) (by kernel_rfl) (by kernel_rfl) (AllOK.of (by kernel_rfl) .nil) (loans:=BP.mkL p_V.store v.2) rfl ((e_V N v K).trans h)
noncomputable def ct28 (N:Nat):CT:=(61,(mkCallee false p_V (g_V N)))::ct27 N
theorem hct28 (N:Nat):CTOK gd P (ct28 N):=.cons (o_V N) (hct27 N)

noncomputable def p_W:Pt:=⟨(.i .str)::ups 4 ((.i (.int .i64))::(.i (.int .i64))::ups 23 ([])),[]⟩
noncomputable def z_W (F:type_of% (@impl_wordOk_L0 α 0 0)) (v:p_W.V) (K:KO α):Option α:=F v.1.1 (nx 4 v.1.2).1 (nx 4 v.1.2).2.1 (fun o0_0=>K (.ret (.iv .bool o0_0) [])) (fun o1_0=>K (.normal ⟨(.iv .str o1_0)::us 29 ([]),[]⟩))
noncomputable def g_W (n:Nat) (v:p_W.V) (K:KO α):Option α:=z_W (impl_wordOk_L0 N n) v K
noncomputable def q_W (N:Nat):Piece:=(mkPiece 5121 p_W (g_W N N))
noncomputable def i_X (N:Nat):Fi:={ loans:=0,owns:=true,results:=[.tmp 2],rtys:=[4],blks:=[(0,q_W N)],regs:=[],masks:=[(0,1)] }
noncomputable def b_X:Code:=match Tryd.f32.body with | some c=>c | none=>.skip
noncomputable def n_W:Code:=(.block 0 (.loop (codeAt b_X [1,0,1,0,0])))
theorem e_W (n:Nat) (v:p_W.V) (K:KO α):runRound env (ct28 N) (i_X N) 5121 (mkPiece 5121 p_W (g_W N n)).run n_W (p_W.mk' v) K=g_W N (n + 1) v K:=Eq.trans (b:=z_W (fun x0 x1 x2 k0 k1=>impl_wordOk_L0r N (fun y0 y1 y2=>impl_wordOk_L0 N n y0 y1 y2 k0 k1) k0 k1 x0 x1 x2) v K) (by kernel_rfl) (by unfold g_W z_W; rw [impl_wordOk_L0.succ])
theorem o_W (N:Nat):PieceOK gd P (i_X N) n_W (q_W N) :=
 piece_loop hE hP (hct28 N) (AllOK.of (by kernel_rfl) .nil) (fun n {_}=>g_W N n) (fun _ _=>impl_wordOk_L0.zero ..) (fun n {_} v K=>e_W N n v K) N
noncomputable def p_X:Pt:=⟨[(.i .str)],[]⟩
noncomputable def z_X (F:type_of% @impl_wordOk) (v:p_X.V) (K:KF α):Option α:=F N v.1.1 (fun o0_0=>K (.iv .bool o0_0) [])
noncomputable def g_X (v:p_X.V) (K:KF α):Option α:=z_X N @impl_wordOk v K
theorem e_X (v:p_X.V) (K:KF α):runFn env (ct28 N) (i_X N) Tryd.f32 (SP.mkL p_X.slots v.1) (BP.mkL p_X.store v.2) K=g_X N v K:=Eq.trans (b:=z_X N @impl_wordOk.b v K) (by kernel_rfl) (by unfold g_X; rw [impl_wordOk.eq])
theorem o_X (N:Nat):CalleeOK gd P 32 (mkCallee false p_X (g_X N)) :=
 callee_ok fun v K h=>fn_snd hE hP (hct28 N) Tryd.func32 (by kernel_rfl) (body:=b_X) (by kernel_rfl) (by kernel_rfl) (AllOK.of (by kernel_rfl) (.cons (o_W N) .nil)) (loans:=BP.mkL p_X.store v.2) rfl ((e_X N v K).trans h)
noncomputable def ct29 (N:Nat):CT:=(32,(mkCallee false p_X (g_X N)))::ct28 N
theorem hct29 (N:Nat):CTOK gd P (ct29 N):=.cons (o_X N) (hct28 N)

noncomputable def i_Y (N:Nat):Fi:={ loans:=1,owns:=true,results:=[.tmp 2],rtys:=[22],blks:=[],regs:=[],masks:=[] }
noncomputable def b_Y:Code:=match Tryd.f33.body with | some c=>c | none=>.skip
noncomputable def p_Y:Pt:=⟨[(.o 0)],[(.arr 44 (.pair (.int .i64) (.pair .str .unit)) false)]⟩
noncomputable def z_Y (F:type_of% @slices_Clip_impl_LangToken_impl_LangToken) (v:p_Y.V) (K:KF α):Option α:=F N v.2.1 (fun o0_0=>K (.own 1) [.gone,(.arr 44 (.pair (.int .i64) (.pair .str .unit)) o0_0 false)])
noncomputable def g_Y (v:p_Y.V) (K:KF α):Option α:=z_Y N @slices_Clip_impl_LangToken_impl_LangToken v K
theorem e_Y (v:p_Y.V) (K:KF α):runFn env (ct29 N) (i_Y N) Tryd.f33 (SP.mkL p_Y.slots v.1) (BP.mkL p_Y.store v.2) K=g_Y N v K:=Eq.trans (b:=z_Y N @slices_Clip_impl_LangToken_impl_LangToken.b v K) (by kernel_rfl) (by unfold g_Y; rw [slices_Clip_impl_LangToken_impl_LangToken.eq])
theorem o_Y (N:Nat):CalleeOK gd P 33 (mkCallee true p_Y (g_Y N)) :=
 callee_ok fun v K h=>fn_snd hE hP (hct29 N) Tryd.func33 (by kernel_rfl) (body:=b_Y) (by kernel_rfl) (by kernel_rfl) (AllOK.of (by kernel_rfl) .nil) (loans:=BP.mkL p_Y.store v.2) rfl ((e_Y N v K).trans h)
noncomputable def ct30 (N:Nat):CT:=(33,(mkCallee true p_Y (g_Y N)))::ct29 N
theorem hct30 (N:Nat):CTOK gd P (ct30 N):=.cons (o_Y N) (hct29 N)

noncomputable def p_Z:Pt:=⟨ups 4 ((.i .str)::.u::.u::(.o 0)::(.i .bool)::(.p 1 [] 0)::ups 74 ([])),[(.arr 44 (.pair (.int .i64) (.pair .str .unit)) false),(.box 44 (.i (.pair (.int .i64) (.pair .str .unit))) false)]⟩
noncomputable def z_Z (F:type_of% @impl_LangTokens_J12) (v:p_Z.V) (K:KO α):Option α:=F N (nx 4 v.1).1 (nx 4 v.1).2.2.2.2.1 v.2.1 v.2.2.1 (fun o0_0 o0_1 o0_2 o0_3=>K (.normal ⟨us 4 ((.iv .str o0_0)::U::U::(.own 0)::(.iv .bool o0_1)::(.lp 1 [] 0)::us 74 ([])),[(.arr 44 (.pair (.int .i64) (.pair .str .unit)) o0_2 false),(.box 44 (.iv (.pair (.int .i64) (.pair .str .unit)) o0_3) false)]⟩))
noncomputable def g_Z (v:p_Z.V) (K:KO α):Option α:=z_Z N @impl_LangTokens_J12 v K
noncomputable def p_0:Pt:=⟨ups 4 ((.i .str)::.u::.u::(.o 0)::(.i .bool)::(.p 1 [] 0)::ups 74 ([])),[(.arr 44 (.pair (.int .i64) (.pair .str .unit)) false),(.box 44 (.i (.pair (.int .i64) (.pair .str .unit))) false)]⟩
noncomputable def z_0 (F:type_of% @impl_LangTokens_J10) (v:p_0.V) (K:KO α):Option α:=F N (nx 4 v.1).1 (nx 4 v.1).2.2.2.2.1 v.2.1 v.2.2.1 (fun o0_0 o0_1 o0_2 o0_3=>K (.normal ⟨us 4 ((.iv .str o0_0)::U::U::(.own 0)::(.iv .bool o0_1)::(.lp 1 [] 0)::us 74 ([])),[(.arr 44 (.pair (.int .i64) (.pair .str .unit)) o0_2 false),(.box 44 (.iv (.pair (.int .i64) (.pair .str .unit)) o0_3) false)]⟩))
noncomputable def g_0 (v:p_0.V) (K:KO α):Option α:=z_0 N @impl_LangTokens_J10 v K
noncomputable def p_1:Pt:=⟨ups 4 ((.i .str)::.u::.u::(.o 0)::(.i .bool)::ups 75 ([])),[(.arr 44 (.pair (.int .i64) (.pair .str .unit)) false)]⟩
noncomputable def z_1 (F:type_of% (@impl_LangTokens_L0 α 0 0)) (v:p_1.V) (K:KO α):Option α:=F (nx 4 v.1).1 (nx 4 v.1).2.2.2.2.1 v.2.1 (fun o0_0 o0_1=>K (.ret (.tuple [(.own 0),(.iv (.int .i64) o0_0)]) [(.arr 44 (.pair (.int .i64) (.pair .str .unit)) o0_1 false)])) (fun o1_0 o1_1=>K (.normal ⟨us 7 ((.own 0)::(.iv .bool o1_0)::us 75 ([])),[(.arr 44 (.pair (.int .i64) (.pair .str .unit)) o1_1 false)]⟩))
noncomputable def g_1 (n:Nat) (v:p_1.V) (K:KO α):Option α:=z_1 (impl_LangTokens_L0 N n) v K
noncomputable def q_Z (N:Nat):Piece:=(mkPiece 344320 p_Z (g_Z N))
noncomputable def q_0 (N:Nat):Piece:=(mkPiece 344320 p_0 (g_0 N))
noncomputable def q_1 (N:Nat):Piece:=(mkPiece 82176 p_1 (g_1 N N))
noncomputable def i_2 (N:Nat):Fi:={ loans:=0,owns:=true,results:=[.tmp 2,.tmp 3],rtys:=[22,3],blks:=[(0,q_1 N)],regs:=[(12,q_Z N),(10,q_0 N)],masks:=[(0,81920)] }
noncomputable def b_2:Code:=match Tryd.f7.body with | some c=>c | none=>.skip
noncomputable def n_Z:Code:=(.seq (codeAt b_2 [1,1,1,1,1,0,0,0,1,0,1,1,0,1,0,1,0]) (codeAt b_2 [1,1,1,1,1,0,0,0,1,0,1,1,0,1,0,1,1]))
noncomputable def n_0:Code:=(.seq (codeAt b_2 [1,1,1,1,1,0,0,0,1,0,1,1,0,0]) (codeAt b_2 [1,1,1,1,1,0,0,0,1,0,1,1,0,1]))
noncomputable def n_1:Code:=(.block 0 (.loop (codeAt b_2 [1,1,1,1,1,0,0,0])))
theorem e_Z (v:p_Z.V) (K:KO α):runSeq env (ct30 N) (i_2 N) 344320 n_Z (p_Z.mk' v) K=g_Z N v K:=Eq.trans (b:=z_Z N @impl_LangTokens_J12.b v K) (by kernel_rfl) (by unfold g_Z; rw [impl_LangTokens_J12.eq])
theorem o_Z (N:Nat):PieceOK gd P (i_2 N) n_Z (q_Z N) :=
 piece_seq hE hP (hct30 N) (AllOK.of (by kernel_rfl) .nil) (AllOK.of (by kernel_rfl) .nil) (e_Z N)
theorem e_0 (v:p_0.V) (K:KO α):runSeq env (ct30 N) (i_2 N) 344320 n_0 (p_0.mk' v) K=g_0 N v K:=Eq.trans (b:=z_0 N @impl_LangTokens_J10.b v K) (by kernel_rfl) (by unfold g_0; rw [impl_LangTokens_J10.eq])
theorem o_0 (N:Nat):PieceOK gd P (i_2 N) n_0 (q_0 N) :=
 piece_seq hE hP (hct30 N) (AllOK.of (by kernel_rfl) .nil) (AllOK.of (by kernel_rfl) (.cons (o_Z N) .nil)) (e_0 N)
theorem e_1 (n:Nat) (v:p_1.V) (K:KO α):runRound env (ct30 N) (i_2 N) 82176 (mkPiece 82176 p_1 (g_1 N n)).run n_1 (p_1.mk' v) K=g_1 N (n + 1) v K:=Eq.trans (b:=z_1 (fun x0 x1 x2 k0 k1=>impl_LangTokens_L0r N (fun y0 y1 y2=>impl_LangTokens_L0 N n y0 y1 y2 k0 k1) k0 k1 x0 x1 x2) v K) (by kernel_rfl) (by unfold g_1 z_1; rw [impl_LangTokens_L0.succ])
theorem o_1 (N:Nat):PieceOK gd P (i_2 N) n_1 (q_1 N) :=
 piece_loop hE hP (hct30 N) (AllOK.of (by kernel_rfl) (.cons (o_0 N) .nil)) (fun n {_}=>g_1 N n) (fun _ _=>impl_LangTokens_L0.zero ..) (fun n {_} v K=>e_1 N n v K) N
noncomputable def p_2:Pt:=⟨[(.i .str)],[]⟩
noncomputable def z_2 (F:type_of% @impl_LangTokens) (v:p_2.V) (K:KF α):Option α:=F N v.1.1 (fun o0_0 o0_1=>K (.tuple [(.own 0),(.iv (.int .i64) o0_0)]) [(.arr 44 (.pair (.int .i64) (.pair .str .unit)) o0_1 false)])
noncomputable def g_2 (v:p_2.V) (K:KF α):Option α:=z_2 N @impl_LangTokens v K
theorem e_2 (v:p_2.V) (K:KF α):runFn env (ct30 N) (i_2 N) Tryd.f7 (SP.mkL p_2.slots v.1) (BP.mkL p_2.store v.2) K=g_2 N v K:=Eq.trans (b:=z_2 N @impl_LangTokens.b v K) (by kernel_rfl) (by unfold g_2; rw [impl_LangTokens.eq])
theorem o_2 (N:Nat):CalleeOK gd P 7 (mkCallee false p_2 (g_2 N)) :=
 callee_ok fun v K h=>fn_snd hE hP (hct30 N) Tryd.func7 (by kernel_rfl) (body:=b_2) (by kernel_rfl) (by kernel_rfl) (AllOK.of (by kernel_rfl) (.cons (o_1 N) .nil)) (loans:=BP.mkL p_2.store v.2) rfl ((e_2 N v K).trans h)
noncomputable def ct31 (N:Nat):CT:=(7,(mkCallee false p_2 (g_2 N)))::ct30 N
theorem hct31 (N:Nat):CTOK gd P (ct31 N):=.cons (o_2 N) (hct30 N)

noncomputable def i_3 (N:Nat):Fi:={ loans:=0,owns:=true,results:=[.tmp 4],rtys:=[4],blks:=[],regs:=[],masks:=[] }
noncomputable def b_3:Code:=match Tryd.f34.body with | some c=>c | none=>.skip
noncomputable def p_3:Pt:=⟨[(.i (.pair (.int .i64) (.pair .str .unit))),(.i (.pair (.int .i64) (.pair .str .unit)))],[]⟩
noncomputable def z_3 (F:type_of% @laws_eqLangToken) (v:p_3.V) (K:KF α):Option α:=F N v.1.1 v.1.2.1 (fun o0_0=>K (.iv .bool o0_0) [])
noncomputable def g_3 (v:p_3.V) (K:KF α):Option α:=z_3 N @laws_eqLangToken v K
theorem e_3 (v:p_3.V) (K:KF α):runFn env (ct31 N) (i_3 N) Tryd.f34 (SP.mkL p_3.slots v.1) (BP.mkL p_3.store v.2) K=g_3 N v K:=Eq.trans (b:=z_3 N @laws_eqLangToken.b v K) (by kernel_rfl) (by unfold g_3; rw [laws_eqLangToken.eq])
theorem o_3 (N:Nat):CalleeOK gd P 34 (mkCallee false p_3 (g_3 N)) :=
 callee_ok fun v K h=>fn_snd hE hP (hct31 N) Tryd.func34 (by kernel_rfl) (body:=b_3) (by kernel_rfl) (by kernel_rfl) (AllOK.of (by kernel_rfl) .nil) (loans:=BP.mkL p_3.store v.2) rfl ((e_3 N v K).trans h)
noncomputable def ct32 (N:Nat):CT:=(34,(mkCallee false p_3 (g_3 N)))::ct31 N
theorem hct32 (N:Nat):CTOK gd P (ct32 N):=.cons (o_3 N) (hct31 N)

noncomputable def p_4:Pt:=⟨(.i (.sl (.pair (.int .i64) (.pair .str .unit))))::(.i (.sl (.pair (.int .i64) (.pair .str .unit))))::.u::.u::.u::(.i (.int .i64))::ups 21 ([]),[]⟩
noncomputable def z_4 (F:type_of% (@laws_eqLangTokenS_L0 α 0 0)) (v:p_4.V) (K:KO α):Option α:=F v.1.1 v.1.2.1 v.1.2.2.2.2.2.1 (fun o0_0=>K (.ret (.iv .bool o0_0) [])) (K (.normal ⟨us 27 ([]),[]⟩))
noncomputable def g_4 (n:Nat) (v:p_4.V) (K:KO α):Option α:=z_4 (laws_eqLangTokenS_L0 N n) v K
noncomputable def q_4 (N:Nat):Piece:=(mkPiece 1029 p_4 (g_4 N N))
noncomputable def i_5 (N:Nat):Fi:={ loans:=0,owns:=true,results:=[.tmp 4],rtys:=[4],blks:=[(0,q_4 N)],regs:=[],masks:=[(0,0)] }
noncomputable def b_5:Code:=match Tryd.f8.body with | some c=>c | none=>.skip
noncomputable def n_4:Code:=(.block 0 (.loop (codeAt b_5 [1,1,0,1,0,0])))
theorem e_4 (n:Nat) (v:p_4.V) (K:KO α):runRound env (ct32 N) (i_5 N) 1029 (mkPiece 1029 p_4 (g_4 N n)).run n_4 (p_4.mk' v) K=g_4 N (n + 1) v K:=Eq.trans (b:=z_4 (fun x0 x1 x2 k0 k1=>laws_eqLangTokenS_L0r N (fun y0 y1 y2=>laws_eqLangTokenS_L0 N n y0 y1 y2 k0 k1) k0 k1 x0 x1 x2) v K) (by kernel_rfl) (by unfold g_4 z_4; rw [laws_eqLangTokenS_L0.succ])
theorem o_4 (N:Nat):PieceOK gd P (i_5 N) n_4 (q_4 N) :=
 piece_loop hE hP (hct32 N) (AllOK.of (by kernel_rfl) .nil) (fun n {_}=>g_4 N n) (fun _ _=>laws_eqLangTokenS_L0.zero ..) (fun n {_} v K=>e_4 N n v K) N
noncomputable def p_5:Pt:=⟨[(.i (.sl (.pair (.int .i64) (.pair .str .unit)))),(.i (.sl (.pair (.int .i64) (.pair .str .unit))))],[]⟩
noncomputable def z_5 (F:type_of% @laws_eqLangTokenS) (v:p_5.V) (K:KF α):Option α:=F N v.1.1 v.1.2.1 (fun o0_0=>K (.iv .bool o0_0) [])
noncomputable def g_5 (v:p_5.V) (K:KF α):Option α:=z_5 N @laws_eqLangTokenS v K
theorem e_5 (v:p_5.V) (K:KF α):runFn env (ct32 N) (i_5 N) Tryd.f8 (SP.mkL p_5.slots v.1) (BP.mkL p_5.store v.2) K=g_5 N v K:=Eq.trans (b:=z_5 N @laws_eqLangTokenS.b v K) (by kernel_rfl) (by unfold g_5; rw [laws_eqLangTokenS.eq])
theorem o_5 (N:Nat):CalleeOK gd P 8 (mkCallee false p_5 (g_5 N)) :=
 callee_ok fun v K h=>fn_snd hE hP (hct32 N) Tryd.func8 (by kernel_rfl) (body:=b_5) (by kernel_rfl) (by kernel_rfl) (AllOK.of (by kernel_rfl) (.cons (o_4 N) .nil)) (loans:=BP.mkL p_5.store v.2) rfl ((e_5 N v K).trans h)
noncomputable def ct33 (N:Nat):CT:=(8,(mkCallee false p_5 (g_5 N)))::ct32 N
theorem hct33 (N:Nat):CTOK gd P (ct33 N):=.cons (o_5 N) (hct32 N)

noncomputable def p_6:Pt:=⟨(.i (.int .i64))::.u::.u::(.i .str)::ups 16 ([]),[]⟩
noncomputable def z_6 (F:type_of% (@laws_markText_L0 α 0 0)) (v:p_6.V) (K:KO α):Option α:=F v.1.1 v.1.2.2.2.1 (fun o0_0=>K (.normal ⟨U::U::U::(.iv .str o0_0)::us 16 ([]),[]⟩))
noncomputable def g_6 (n:Nat) (v:p_6.V) (K:KO α):Option α:=z_6 (laws_markText_L0 N n) v K
noncomputable def q_6 (N:Nat):Piece:=(mkPiece 65 p_6 (g_6 N N))
noncomputable def i_7 (N:Nat):Fi:={ loans:=0,owns:=true,results:=[.tmp 2],rtys:=[9],blks:=[(0,q_6 N)],regs:=[],masks:=[(0,64)] }
noncomputable def b_7:Code:=match Tryd.f35.body with | some c=>c | none=>.skip
noncomputable def n_6:Code:=(.block 0 (.loop (codeAt b_7 [1,1,1,0,0,0])))
theorem e_6 (n:Nat) (v:p_6.V) (K:KO α):runRound env (ct33 N) (i_7 N) 65 (mkPiece 65 p_6 (g_6 N n)).run n_6 (p_6.mk' v) K=g_6 N (n + 1) v K:=Eq.trans (b:=z_6 (fun x0 x1 k0=>laws_markText_L0r N (fun y0 y1=>laws_markText_L0 N n y0 y1 k0) k0 x0 x1) v K) (by kernel_rfl) (by unfold g_6 z_6; rw [laws_markText_L0.succ])
theorem o_6 (N:Nat):PieceOK gd P (i_7 N) n_6 (q_6 N) :=
 piece_loop hE hP (hct33 N) (AllOK.of (by kernel_rfl) .nil) (fun n {_}=>g_6 N n) (fun _ _=>laws_markText_L0.zero ..) (fun n {_} v K=>e_6 N n v K) N
noncomputable def p_7:Pt:=⟨[(.i (.int .i64))],[]⟩
noncomputable def z_7 (F:type_of% @laws_markText) (v:p_7.V) (K:KF α):Option α:=F N v.1.1 (fun o0_0=>K (.iv .str o0_0) [])
noncomputable def g_7 (v:p_7.V) (K:KF α):Option α:=z_7 N @laws_markText v K
theorem e_7 (v:p_7.V) (K:KF α):runFn env (ct33 N) (i_7 N) Tryd.f35 (SP.mkL p_7.slots v.1) (BP.mkL p_7.store v.2) K=g_7 N v K:=Eq.trans (b:=z_7 N @laws_markText.b v K) (by kernel_rfl) (by unfold g_7; rw [laws_markText.eq])
theorem o_7 (N:Nat):CalleeOK gd P 35 (mkCallee true p_7 (g_7 N)) :=
 callee_ok fun v K h=>fn_snd hE hP (hct33 N) Tryd.func35 (by kernel_rfl) (body:=b_7) (by kernel_rfl) (by kernel_rfl) (AllOK.of (by kernel_rfl) (.cons (o_6 N) .nil)) (loans:=BP.mkL p_7.store v.2) rfl ((e_7 N v K).trans h)
noncomputable def ct34 (N:Nat):CT:=(35,(mkCallee true p_7 (g_7 N)))::ct33 N
theorem hct34 (N:Nat):CTOK gd P (ct34 N):=.cons (o_7 N) (hct33 N)

noncomputable def p_8:Pt:=⟨(.o 0)::(.i (.int .i64))::.u::.u::.u::(.i (.int .i64))::ups 22 ([]),[(.arr 44 (.pair (.int .i64) (.pair .str .unit)) false)]⟩
noncomputable def z_8 (F:type_of% (@laws_markLangTokenS_L0 α 0 0)) (v:p_8.V) (K:KO α):Option α:=F v.1.2.1 v.1.2.2.2.2.2.1 v.2.1 (fun o0_0 o0_1=>K (.normal ⟨U::(.iv (.int .i64) o0_0)::us 26 ([]),[(.arr 44 (.pair (.int .i64) (.pair .str .unit)) o0_1 false)]⟩))
noncomputable def g_8 (n:Nat) (v:p_8.V) (K:KO α):Option α:=z_8 (laws_markLangTokenS_L0 N n) v K
noncomputable def q_8 (N:Nat):Piece:=(mkPiece 1029 p_8 (g_8 N N))
noncomputable def i_9 (N:Nat):Fi:={ loans:=1,owns:=true,results:=[.tmp 4],rtys:=[3],blks:=[(0,q_8 N)],regs:=[],masks:=[(0,4)] }
noncomputable def b_9:Code:=match Tryd.f9.body with | some c=>c | none=>.skip
noncomputable def n_8:Code:=(.block 0 (.loop (codeAt b_9 [1,0,1,0,0])))
theorem e_8 (n:Nat) (v:p_8.V) (K:KO α):runRound env (ct34 N) (i_9 N) 1029 (mkPiece 1029 p_8 (g_8 N n)).run n_8 (p_8.mk' v) K=g_8 N (n + 1) v K:=Eq.trans (b:=z_8 (fun x0 x1 x2 k0=>laws_markLangTokenS_L0r N (fun y0 y1 y2=>laws_markLangTokenS_L0 N n y0 y1 y2 k0) k0 x0 x1 x2) v K) (by kernel_rfl) (by unfold g_8 z_8; rw [laws_markLangTokenS_L0.succ])
theorem o_8 (N:Nat):PieceOK gd P (i_9 N) n_8 (q_8 N) :=
 piece_loop hE hP (hct34 N) (AllOK.of (by kernel_rfl) .nil) (fun n {_}=>g_8 N n) (fun _ _=>laws_markLangTokenS_L0.zero ..) (fun n {_} v K=>e_8 N n v K) N
noncomputable def p_9:Pt:=⟨[(.o 0),(.i (.int .i64))],[(.arr 44 (.pair (.int .i64) (.pair .str .unit)) false)]⟩
noncomputable def z_9 (F:type_of% @laws_markLangTokenS) (v:p_9.V) (K:KF α):Option α:=F N v.1.2.1 v.2.1 (fun o0_0 o0_1=>K (.iv (.int .i64) o0_0) [(.arr 44 (.pair (.int .i64) (.pair .str .unit)) o0_1 false)])
noncomputable def g_9 (v:p_9.V) (K:KF α):Option α:=z_9 N @laws_markLangTokenS v K
theorem e_9 (v:p_9.V) (K:KF α):runFn env (ct34 N) (i_9 N) Tryd.f9 (SP.mkL p_9.slots v.1) (BP.mkL p_9.store v.2) K=g_9 N v K:=Eq.trans (b:=z_9 N @laws_markLangTokenS.b v K) (by kernel_rfl) (by unfold g_9; rw [laws_markLangTokenS.eq])
theorem o_9 (N:Nat):CalleeOK gd P 9 (mkCallee true p_9 (g_9 N)) :=
 callee_ok fun v K h=>fn_snd hE hP (hct34 N) Tryd.func9 (by kernel_rfl) (body:=b_9) (by kernel_rfl) (by kernel_rfl) (AllOK.of (by kernel_rfl) (.cons (o_8 N) .nil)) (loans:=BP.mkL p_9.store v.2) rfl ((e_9 N v K).trans h)
noncomputable def ct35 (N:Nat):CT:=(9,(mkCallee true p_9 (g_9 N)))::ct34 N
theorem hct35 (N:Nat):CTOK gd P (ct35 N):=.cons (o_9 N) (hct34 N)

noncomputable def p_ba:Pt:=⟨(.i (.sl (.pair (.int .i64) (.pair .str .unit))))::(.i (.int .i64))::.u::.u::.u::(.i (.int .i64))::ups 26 ([]),[]⟩
noncomputable def z_ba (F:type_of% (@laws_heldLangTokenS_L0 α 0 0)) (v:p_ba.V) (K:KO α):Option α:=F v.1.1 v.1.2.1 v.1.2.2.2.2.2.1 (fun o0_0=>K (.ret (.iv (.int .i64) o0_0) [])) (fun o1_0=>K (.normal ⟨U::(.iv (.int .i64) o1_0)::us 30 ([]),[]⟩))
noncomputable def g_ba (n:Nat) (v:p_ba.V) (K:KO α):Option α:=z_ba (laws_heldLangTokenS_L0 N n) v K
noncomputable def q_ba (N:Nat):Piece:=(mkPiece 1029 p_ba (g_ba N N))
noncomputable def i_bb (N:Nat):Fi:={ loans:=0,owns:=true,results:=[.tmp 4],rtys:=[3],blks:=[(0,q_ba N)],regs:=[],masks:=[(0,4)] }
noncomputable def b_bb:Code:=match Tryd.f10.body with | some c=>c | none=>.skip
noncomputable def n_ba:Code:=(.block 0 (.loop (codeAt b_bb [1,0,1,0,0])))
theorem e_ba (n:Nat) (v:p_ba.V) (K:KO α):runRound env (ct35 N) (i_bb N) 1029 (mkPiece 1029 p_ba (g_ba N n)).run n_ba (p_ba.mk' v) K=g_ba N (n + 1) v K:=Eq.trans (b:=z_ba (fun x0 x1 x2 k0 k1=>laws_heldLangTokenS_L0r N (fun y0 y1 y2=>laws_heldLangTokenS_L0 N n y0 y1 y2 k0 k1) k0 k1 x0 x1 x2) v K) (by kernel_rfl) (by unfold g_ba z_ba; rw [laws_heldLangTokenS_L0.succ])
theorem o_ba (N:Nat):PieceOK gd P (i_bb N) n_ba (q_ba N) :=
 piece_loop hE hP (hct35 N) (AllOK.of (by kernel_rfl) .nil) (fun n {_}=>g_ba N n) (fun _ _=>laws_heldLangTokenS_L0.zero ..) (fun n {_} v K=>e_ba N n v K) N
noncomputable def p_bb:Pt:=⟨[(.i (.sl (.pair (.int .i64) (.pair .str .unit)))),(.i (.int .i64))],[]⟩
noncomputable def z_bb (F:type_of% @laws_heldLangTokenS) (v:p_bb.V) (K:KF α):Option α:=F N v.1.1 v.1.2.1 (fun o0_0=>K (.iv (.int .i64) o0_0) [])
noncomputable def g_bb (v:p_bb.V) (K:KF α):Option α:=z_bb N @laws_heldLangTokenS v K
theorem e_bb (v:p_bb.V) (K:KF α):runFn env (ct35 N) (i_bb N) Tryd.f10 (SP.mkL p_bb.slots v.1) (BP.mkL p_bb.store v.2) K=g_bb N v K:=Eq.trans (b:=z_bb N @laws_heldLangTokenS.b v K) (by kernel_rfl) (by unfold g_bb; rw [laws_heldLangTokenS.eq])
theorem o_bb (N:Nat):CalleeOK gd P 10 (mkCallee false p_bb (g_bb N)) :=
 callee_ok fun v K h=>fn_snd hE hP (hct35 N) Tryd.func10 (by kernel_rfl) (body:=b_bb) (by kernel_rfl) (by kernel_rfl) (AllOK.of (by kernel_rfl) (.cons (o_ba N) .nil)) (loans:=BP.mkL p_bb.store v.2) rfl ((e_bb N v K).trans h)
noncomputable def ct36 (N:Nat):CT:=(10,(mkCallee false p_bb (g_bb N)))::ct35 N
theorem hct36 (N:Nat):CTOK gd P (ct36 N):=.cons (o_bb N) (hct35 N)

noncomputable def i_bc (N:Nat):Fi:={ loans:=0,owns:=true,results:=[.tmp 2],rtys:=[4],blks:=[],regs:=[],masks:=[] }
noncomputable def b_bc:Code:=match Tryd.f3.body with | some c=>c | none=>.skip
noncomputable def plaws_FnExactLangTokens:Pt:=⟨[(.i .str)],[]⟩
noncomputable def z_bc (F:type_of% @laws_FnExactLangTokens) (v:plaws_FnExactLangTokens.V) (K:KF α):Option α:=F N v.1.1 (fun o0_0=>K (.iv .bool o0_0) [])
noncomputable def glaws_FnExactLangTokens (v:plaws_FnExactLangTokens.V) (K:KF α):Option α:=z_bc N @laws_FnExactLangTokens v K
theorem e_bc (v:plaws_FnExactLangTokens.V) (K:KF α):runFn env (ct36 N) (i_bc N) Tryd.f3 (SP.mkL plaws_FnExactLangTokens.slots v.1) (BP.mkL plaws_FnExactLangTokens.store v.2) K=glaws_FnExactLangTokens N v K:=Eq.trans (b:=z_bc N @laws_FnExactLangTokens.b v K) (by kernel_rfl) (by unfold glaws_FnExactLangTokens; rw [laws_FnExactLangTokens.eq])
theorem olaws_FnExactLangTokens (N:Nat):CalleeOK gd P 3 (mkCallee false plaws_FnExactLangTokens (glaws_FnExactLangTokens N)) :=
 callee_ok fun v K h=>fn_snd hE hP (hct36 N) Tryd.func3 (by kernel_rfl) (body:=b_bc) (by kernel_rfl) (by kernel_rfl) (AllOK.of (by kernel_rfl) .nil) (loans:=BP.mkL plaws_FnExactLangTokens.store v.2) rfl ((e_bc N v K).trans h)
noncomputable def ct37 (N:Nat):CT:=(3,(mkCallee false plaws_FnExactLangTokens (glaws_FnExactLangTokens N)))::ct36 N
theorem hct37 (N:Nat):CTOK gd P (ct37 N):=.cons (olaws_FnExactLangTokens N) (hct36 N)

end
end
end Go.Proofs.YtnhbcpmmdblkjaaDoorAm
