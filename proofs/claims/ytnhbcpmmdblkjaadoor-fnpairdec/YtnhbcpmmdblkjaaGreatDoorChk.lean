/-
 The functions are what the program computes. Printed by amp.py.
-/
import Derived.Test.YtnhbcpmmdblkjaaGreatDoorFns
import Derived.Test.YtnhbcpmmdblkjaaGreatDoorProg
namespace Go.Proofs.YtnhbcpmmdblkjaaGreatDoorAm
open Go
noncomputable section
set_option linter.unusedVariables false
set_option linter.unusedSimpArgs false
noncomputable abbrev P:Program:=Go.Proofs.Tryz.prog
noncomputable def ups:Nat→List SP→List SP
 | 0,l=>l
 | n + 1,l=>.u::ups n l
noncomputable def nx (n:Nat) {l:List SP} (v:SP.VL (ups n l)):SP.VL l:=match n,v with
 | 0,v=>v
 | n + 1,v=>nx n v.2
abbrev KF (α:Type):Type:=HV→List Blk→Option α
abbrev KO (α:Type):Type:=Out→Option α
abbrev U:HV:=.undef
def env:Env where
 sl:=[(22,5,(.int .u8)),(23,3,(.int .i64)),(46,35,(.pair (.int .i64) (.pair (.int .i64) .unit))),(50,25,(.pair .bool (.pair (.sl (.int .i64)) (.pair (.sl (.int .i64)) .unit)))),(67,9,.str),(127,23,(.sl (.int .i64)))]
 ty:=[(3,(.int .i64)),(4,.bool),(5,(.int .u8)),(9,.str),(22,(.sl (.int .u8))),(23,(.sl (.int .i64))),(25,(.pair .bool (.pair (.sl (.int .i64)) (.pair (.sl (.int .i64)) .unit)))),(35,(.pair (.int .i64) (.pair (.int .i64) .unit))),(46,(.sl (.pair (.int .i64) (.pair (.int .i64) .unit)))),(48,(.pair (.sl (.pair (.int .i64) (.pair (.int .i64) .unit))) .unit)),(50,(.sl (.pair .bool (.pair (.sl (.int .i64)) (.pair (.sl (.int .i64)) .unit))))),(77,(.int .u64)),(90,(.pair (.sl (.int .u8)) (.pair (.int .i64) .unit))),(107,(.pair (.sl (.int .u8)) (.pair (.int .i64) .unit))),(111,(.pair (.int .i64) (.pair (.int .i64) (.pair (.int .i64) (.pair (.int .i64) .unit))))),(116,(.pair .bool (.pair (.int .u64) (.pair (.int .i64) .unit)))),(122,(.pair .bool (.pair (.sl (.int .i64)) (.pair (.sl (.int .i64)) .unit)))),(127,(.sl (.sl (.int .i64)))),(129,(.int .u64))]
 lay:=[(3,1,false),(4,1,false),(5,1,false),(9,1,false),(22,1,false),(23,1,false),(25,3,true),(35,2,true),(46,1,false),(48,1,true),(77,1,false),(90,2,true),(107,2,true),(111,4,true),(116,3,true),(122,3,true)]
 fo:=[(25,[0,1,2]),(35,[0,1]),(48,[0]),(90,[0,1]),(107,[0,1]),(111,[0,1,2,3]),(116,[0,1,2]),(122,[0,1,2])]
 lim:=[(3,8796093022208),(5,8796093022208)]
 cut:=[]
 ifs:=[139]
 zs:=[(25,[3,3]),(48,[35]),(122,[3,3])]
 eqs:=[]
theorem hE:EnvOK P env:=wty (by kernel_rfl) (wuu (by kernel_rfl))
theorem hP:P.follows .mixedOrders=true:=by kernel_rfl

section
variable (N:Nat) {α:Type}
open Go.Shelf
def lays219_ren:Go.Shelf.Ren:=⟨fun | 219=>121 | 217=>146 | 225=>147 | 224=>148 | 267=>149 | 266=>171 | 314=>172 | n=>n,fun | 9=>9 | 3=>3 | 4=>4 | 5=>5 | 46=>129 | 146=>157 | 51=>154 | n=>n,fun | 1=>0 | n=>n⟩
theorem lays219:Go.Proofs.Lays.n219 Tryz.prog lays219_ren:={
 mixed:=by kernel_rfl
 f217:=Tryz.func146.trans (congrArg some (by kernel_rfl))
 f219:=Tryz.func121.trans (congrArg some (by kernel_rfl))
 f224:=Tryz.func148.trans (congrArg some (by kernel_rfl))
 f225:=Tryz.func147.trans (congrArg some (by kernel_rfl))
 f266:=Tryz.func171.trans (congrArg some (by kernel_rfl))
 f267:=Tryz.func149.trans (congrArg some (by kernel_rfl))
 f314:=Tryz.func172.trans (congrArg some (by kernel_rfl))
 t3:=Tryz.underlying3
 a3:=Tryz.isAgg3
 z3:=Tryz.sizeOf3
 v3:=Tryz.zeroValue3
 t4:=Tryz.underlying4
 a4:=Tryz.isAgg4
 z4:=Tryz.sizeOf4
 v4:=Tryz.zeroValue4
 t5:=Tryz.underlying5
 a5:=Tryz.isAgg5
 z5:=Tryz.sizeOf5
 v5:=Tryz.zeroValue5
 t9:=Tryz.underlying9
 a9:=Tryz.isAgg9
 z9:=Tryz.sizeOf9
 v9:=Tryz.zeroValue9
 t46:=Tryz.underlying129
 a46:=Tryz.isAgg129
 z46:=Tryz.sizeOf129
 v46:=Tryz.zeroValue129
 t51:=Tryz.underlying154
 a51:=Tryz.isAgg154
 z51:=Tryz.sizeOf154
 v51:=Tryz.zeroValue154
 t146:=Tryz.underlying157
 a146:=Tryz.isAgg157
 z146:=Tryz.sizeOf157
 v146:=Tryz.zeroValue157
 g1:=by kernel_rfl }
def lays29_ren:Go.Shelf.Ren:=⟨fun | 29=>158 | n=>n,fun | 22=>77 | 3=>3 | 4=>4 | 25=>129 | 54=>186 | 0=>0 | 5=>5 | n=>n,fun | 1=>1 | n=>n⟩
theorem lays29:Go.Proofs.Lays7.n29 Tryz.prog lays29_ren:={
 mixed:=by kernel_rfl
 f29:=Tryz.func158.trans (congrArg some (by kernel_rfl))
 t0:=Tryz.underlying0
 a0:=Tryz.isAgg0
 z0:=Tryz.sizeOf0
 v0:=Tryz.zeroValue0
 i0:=by kernel_rfl
 t3:=Tryz.underlying3
 a3:=Tryz.isAgg3
 z3:=Tryz.sizeOf3
 v3:=Tryz.zeroValue3
 i3:=by kernel_rfl
 t4:=Tryz.underlying4
 a4:=Tryz.isAgg4
 z4:=Tryz.sizeOf4
 v4:=Tryz.zeroValue4
 i4:=by kernel_rfl
 t5:=Tryz.underlying5
 a5:=Tryz.isAgg5
 z5:=Tryz.sizeOf5
 v5:=Tryz.zeroValue5
 i5:=by kernel_rfl
 t22:=Tryz.underlying77
 a22:=Tryz.isAgg77
 z22:=Tryz.sizeOf77
 v22:=Tryz.zeroValue77
 i22:=by kernel_rfl
 t25:=Tryz.underlying129
 a25:=Tryz.isAgg129
 z25:=Tryz.sizeOf129
 v25:=Tryz.zeroValue129
 i25:=by kernel_rfl
 t54:=Tryz.underlying186
 a54:=Tryz.isAgg186
 z54:=Tryz.sizeOf186
 g1:=by kernel_rfl }
def lays172_ren:Go.Shelf.Ren:=⟨fun | 172=>125 | 244=>151 | 245=>152 | 247=>173 | 279=>174 | 280=>175 | 281=>176 | 282=>177 | 287=>183 | 316=>184 | 171=>65 | 205=>185 | 321=>187 | 322=>188 | 243=>108 | 246=>141 | 283=>165 | 284=>166 | 285=>167 | 286=>168 | 129=>140 | 317=>179 | 318=>180 | 319=>181 | 320=>182 | 337=>186 | 338=>158 | n=>n,fun | 9=>9 | 3=>3 | 75=>139 | 76=>140 | 4=>4 | 5=>5 | 167=>180 | 37=>22 | 0=>0 | 85=>181 | 2=>2 | 168=>183 | 53=>77 | 175=>190 | 46=>129 | 210=>194 | 127=>161 | 145=>199 | 143=>197 | 21=>21 | 171=>172 | 173=>174 | 212=>188 | 51=>154 | 20=>20 | 213=>189 | 232=>200 | 233=>186 | 80=>71 | n=>n,fun | 15=>3 | 16=>4 | 17=>2 | 18=>5 | 19=>1 | n=>n⟩
theorem lays172:Go.Proofs.LaysC.n172 Tryz.prog lays172_ren:={
 mixed:=by kernel_rfl
 f129:=Tryz.func140.trans (congrArg some (by kernel_rfl))
 f171:=Tryz.func65.trans (congrArg some (by kernel_rfl))
 f172:=Tryz.func125.trans (congrArg some (by kernel_rfl))
 f205:=Tryz.func185.trans (congrArg some (by kernel_rfl))
 f243:=Tryz.func108.trans (congrArg some (by kernel_rfl))
 f244:=Tryz.func151.trans (congrArg some (by kernel_rfl))
 f245:=Tryz.func152.trans (congrArg some (by kernel_rfl))
 f246:=Tryz.func141.trans (congrArg some (by kernel_rfl))
 f247:=Tryz.func173.trans (congrArg some (by kernel_rfl))
 f279:=Tryz.func174.trans (congrArg some (by kernel_rfl))
 f280:=Tryz.func175.trans (congrArg some (by kernel_rfl))
 f281:=Tryz.func176.trans (congrArg some (by kernel_rfl))
 f282:=Tryz.func177.trans (congrArg some (by kernel_rfl))
 f283:=Tryz.func165.trans (congrArg some (by kernel_rfl))
 f284:=Tryz.func166.trans (congrArg some (by kernel_rfl))
 f285:=Tryz.func167.trans (congrArg some (by kernel_rfl))
 f286:=Tryz.func168.trans (congrArg some (by kernel_rfl))
 f287:=Tryz.func183.trans (congrArg some (by kernel_rfl))
 f316:=Tryz.func184.trans (congrArg some (by kernel_rfl))
 f317:=Tryz.func179.trans (congrArg some (by kernel_rfl))
 f318:=Tryz.func180.trans (congrArg some (by kernel_rfl))
 f319:=Tryz.func181.trans (congrArg some (by kernel_rfl))
 f320:=Tryz.func182.trans (congrArg some (by kernel_rfl))
 f321:=Tryz.func187.trans (congrArg some (by kernel_rfl))
 f322:=Tryz.func188.trans (congrArg some (by kernel_rfl))
 f337:=Tryz.func186.trans (congrArg some (by kernel_rfl))
 f338:=Tryz.func158.trans (congrArg some (by kernel_rfl))
 t0:=Tryz.underlying0
 a0:=Tryz.isAgg0
 z0:=Tryz.sizeOf0
 v0:=Tryz.zeroValue0
 t2:=Tryz.underlying2
 a2:=Tryz.isAgg2
 z2:=Tryz.sizeOf2
 v2:=Tryz.zeroValue2
 t3:=Tryz.underlying3
 a3:=Tryz.isAgg3
 z3:=Tryz.sizeOf3
 v3:=Tryz.zeroValue3
 t4:=Tryz.underlying4
 a4:=Tryz.isAgg4
 z4:=Tryz.sizeOf4
 v4:=Tryz.zeroValue4
 t5:=Tryz.underlying5
 a5:=Tryz.isAgg5
 z5:=Tryz.sizeOf5
 v5:=Tryz.zeroValue5
 t9:=Tryz.underlying9
 a9:=Tryz.isAgg9
 z9:=Tryz.sizeOf9
 v9:=Tryz.zeroValue9
 t20:=Tryz.underlying20
 a20:=Tryz.isAgg20
 z20:=Tryz.sizeOf20
 v20:=Tryz.zeroValue20
 t21:=Tryz.underlying21
 a21:=Tryz.isAgg21
 z21:=Tryz.sizeOf21
 v21:=Tryz.zeroValue21
 t37:=Tryz.underlying22
 a37:=Tryz.isAgg22
 z37:=Tryz.sizeOf22
 v37:=Tryz.zeroValue22
 t46:=Tryz.underlying129
 a46:=Tryz.isAgg129
 z46:=Tryz.sizeOf129
 v46:=Tryz.zeroValue129
 t51:=Tryz.underlying154
 a51:=Tryz.isAgg154
 z51:=Tryz.sizeOf154
 v51:=Tryz.zeroValue154
 t53:=Tryz.underlying77
 a53:=Tryz.isAgg77
 z53:=Tryz.sizeOf77
 v53:=Tryz.zeroValue77
 t75:=Tryz.underlying139
 a75:=Tryz.isAgg139
 z75:=Tryz.sizeOf139
 v75:=Tryz.zeroValue139
 t76:=Tryz.underlying140
 a76:=Tryz.isAgg140
 z76:=Tryz.sizeOf140
 v76:=Tryz.zeroValue140
 t85:=Tryz.underlying181
 a85:=Tryz.isAgg181
 z85:=Tryz.sizeOf181
 v85:=Tryz.zeroValue181
 t127:=Tryz.underlying161
 a127:=Tryz.isAgg161
 z127:=Tryz.sizeOf161
 v127:=Tryz.zeroValue161
 t143:=Tryz.underlying197
 a143:=Tryz.isAgg197
 z143:=Tryz.sizeOf197
 v143:=Tryz.zeroValue197
 t145:=Tryz.underlying199
 a145:=Tryz.isAgg199
 z145:=Tryz.sizeOf199
 v145:=Tryz.zeroValue199
 t167:=Tryz.underlying180
 a167:=Tryz.isAgg180
 z167:=Tryz.sizeOf180
 v167:=Tryz.zeroValue180
 t168:=Tryz.underlying183
 a168:=Tryz.isAgg183
 z168:=Tryz.sizeOf183
 v168:=Tryz.zeroValue183
 t171:=Tryz.underlying172
 a171:=Tryz.isAgg172
 z171:=Tryz.sizeOf172
 v171:=Tryz.zeroValue172
 t173:=Tryz.underlying174
 a173:=Tryz.isAgg174
 z173:=Tryz.sizeOf174
 v173:=Tryz.zeroValue174
 t175:=Tryz.underlying190
 a175:=Tryz.isAgg190
 z175:=Tryz.sizeOf190
 v175:=Tryz.zeroValue190
 t210:=Tryz.underlying194
 a210:=Tryz.isAgg194
 z210:=Tryz.sizeOf194
 v210:=Tryz.zeroValue194
 t212:=Tryz.underlying188
 a212:=Tryz.isAgg188
 z212:=Tryz.sizeOf188
 v212:=Tryz.zeroValue188
 t213:=Tryz.underlying189
 a213:=Tryz.isAgg189
 z213:=Tryz.sizeOf189
 t232:=Tryz.underlying200
 a232:=Tryz.isAgg200
 z232:=Tryz.sizeOf200
 v232:=Tryz.zeroValue200
 t233:=Tryz.underlying186
 a233:=Tryz.isAgg186
 z233:=Tryz.sizeOf186
 v233:=Tryz.zeroValue186
 g15:=by kernel_rfl
 g16:=by kernel_rfl
 g17:=by kernel_rfl
 g18:=by kernel_rfl
 g19:=by kernel_rfl
 t80:=Tryz.underlying71
 a80:=Tryz.isAgg71
 z80:=Tryz.sizeOf71
 v80:=Tryz.zeroValue71
 i0:=by kernel_rfl
 i2:=by kernel_rfl
 i3:=by kernel_rfl
 i4:=by kernel_rfl
 i5:=by kernel_rfl
 i9:=by kernel_rfl
 i20:=by kernel_rfl
 i21:=by kernel_rfl
 i37:=by kernel_rfl
 i46:=by kernel_rfl
 i51:=by kernel_rfl
 i53:=by kernel_rfl
 i75:=by kernel_rfl
 i76:=by kernel_rfl
 i80:=by kernel_rfl
 i85:=by kernel_rfl
 i127:=by kernel_rfl
 i143:=by kernel_rfl
 i145:=by kernel_rfl
 i167:=by kernel_rfl
 i168:=by kernel_rfl
 i171:=by kernel_rfl
 i173:=by kernel_rfl
 i175:=by kernel_rfl
 i210:=by kernel_rfl
 i212:=by kernel_rfl
 i232:=by kernel_rfl
 i233:=by kernel_rfl
 m15:=by kernel_rfl
 m16:=by kernel_rfl
 m17:=by kernel_rfl
 m18:=by kernel_rfl
 m19:=by kernel_rfl
 c0:=by kernel_rfl
 c2:=by kernel_rfl
 c3:=by kernel_rfl
 c4:=by kernel_rfl
 c5:=by kernel_rfl
 c9:=by kernel_rfl
 c20:=by kernel_rfl
 c21:=by kernel_rfl
 c37:=by kernel_rfl
 c46:=by kernel_rfl
 c51:=by kernel_rfl
 c53:=by kernel_rfl
 c75:=by kernel_rfl
 c76:=by kernel_rfl
 c80:=by kernel_rfl
 c85:=by kernel_rfl
 c127:=by kernel_rfl
 c143:=by kernel_rfl
 c145:=by kernel_rfl
 c167:=by kernel_rfl
 c168:=by kernel_rfl
 c171:=by kernel_rfl
 c173:=by kernel_rfl
 c175:=by kernel_rfl
 c210:=by kernel_rfl
 c212:=by kernel_rfl
 c213:=by kernel_rfl
 c232:=by kernel_rfl
 c233:=by kernel_rfl }
abbrev gd:Gd:=ws2 5 [⟨1,.u8,wjD⟩] [3,4] (by kernel_rfl) (by kernel_rfl)
noncomputable def ct0 (N:Nat):CT:=[]
theorem hct0 (N:Nat):CTOK gd P (ct0 N):=.nil
noncomputable def p_a:Pt:=⟨(.i (.sl (.int .u8)))::ups 10 ([]),[]⟩
noncomputable def z_a (F:type_of% @wcU) (v:p_a.V) (K:KO α):Option α:=F N v.1.1 (fun o0_0=>K (.normal ⟨(.iv (.sl (.int .u8)) o0_0)::us 10 ([]),[]⟩))
noncomputable def g_a (v:p_a.V) (K:KO α):Option α:=z_a N @wcU v K
noncomputable def q_a (N:Nat):Piece:=(wj 1 p_a (g_a N))
noncomputable def i_b (N:Nat):Fi:={ loans:=0,owns:=true,results:=[.tmp 2],rtys:=[68],blks:=[],regs:=[(1,q_a N)],masks:=[] }
noncomputable def b_b:Code:=match Tryz.f40.body with | some c=>c | none=>.skip
noncomputable def n_a:Code:=(.seq (wq b_b [1,0,0]) (wq b_b [1,0,1]))
theorem e_a (v:p_a.V) (K:KO α):wcK env (ct0 N) (i_b N) 1 n_a (p_a.mk' v) K=g_a N v K:=Eq.trans (b:=z_a N @wcU.b v K) (by kernel_rfl) (by unfold g_a; rw [wcU.eq])
theorem o_a (N:Nat):wv gd P (i_b N) n_a (q_a N) :=
 wG hE hP (hct0 N) (wn.of (by kernel_rfl) .nil) (wn.of (by kernel_rfl) .nil) (e_a N)
noncomputable def p_b:Pt:=⟨[(.i (.sl (.int .u8)))],[]⟩
noncomputable def z_b (F:type_of% @wdt) (v:p_b.V) (K:KF α):Option α:=F N v.1.1 (fun o0_0=>K (.lp 0 [] 0) [(.box 107 (.iv (.pair (.sl (.int .u8)) (.pair (.int .i64) .unit)) o0_0) false)])
noncomputable def g_b (v:p_b.V) (K:KF α):Option α:=z_b N @wdt v K
theorem e_b (v:p_b.V) (K:KF α):wbB env (ct0 N) (i_b N) Tryz.f40 (SP.mkL p_b.slots v.1) (BP.mkL p_b.store v.2) K=g_b N v K:=Eq.trans (b:=z_b N @wdt.b v K) (by kernel_rfl) (by unfold g_b; rw [wdt.eq])
theorem o_b (N:Nat):wk gd P 40 (wa false p_b (g_b N)) :=
 wh fun v K h=>wJ hE hP (hct0 N) Tryz.func40 (by kernel_rfl) (body:=b_b) (by kernel_rfl) (by kernel_rfl) (wn.of (by kernel_rfl) (.cons (o_a N) .nil)) (loans:=BP.mkL p_b.store v.2) rfl ((e_b N v K).trans h)
noncomputable def ct1 (N:Nat):CT:=(40,(wa false p_b (g_b N)))::ct0 N
theorem hct1 (N:Nat):CTOK gd P (ct1 N):=.cons (o_b N) (hct0 N)

noncomputable def p_c:Pt:=⟨(.i (.sl (.int .u8)))::ups 10 ([]),[]⟩
noncomputable def z_c (F:type_of% @wcY) (v:p_c.V) (K:KO α):Option α:=F N v.1.1 (fun o0_0=>K (.normal ⟨(.iv (.sl (.int .u8)) o0_0)::us 10 ([]),[]⟩))
noncomputable def g_c (v:p_c.V) (K:KO α):Option α:=z_c N @wcY v K
noncomputable def q_c (N:Nat):Piece:=(wj 1 p_c (g_c N))
noncomputable def i_d (N:Nat):Fi:={ loans:=0,owns:=true,results:=[.tmp 2],rtys:=[52],blks:=[],regs:=[(1,q_c N)],masks:=[] }
noncomputable def b_d:Code:=match Tryz.f23.body with | some c=>c | none=>.skip
noncomputable def n_c:Code:=(.seq (wq b_d [1,0,0]) (wq b_d [1,0,1]))
theorem e_c (v:p_c.V) (K:KO α):wcK env (ct1 N) (i_d N) 1 n_c (p_c.mk' v) K=g_c N v K:=Eq.trans (b:=z_c N @wcY.b v K) (by kernel_rfl) (by unfold g_c; rw [wcY.eq])
theorem o_c (N:Nat):wv gd P (i_d N) n_c (q_c N) :=
 wG hE hP (hct1 N) (wn.of (by kernel_rfl) .nil) (wn.of (by kernel_rfl) .nil) (e_c N)
noncomputable def p_d:Pt:=⟨[(.i (.sl (.int .u8)))],[]⟩
noncomputable def z_d (F:type_of% @wdG) (v:p_d.V) (K:KF α):Option α:=F N v.1.1 (fun o0_0=>K (.lp 0 [] 0) [(.box 90 (.iv (.pair (.sl (.int .u8)) (.pair (.int .i64) .unit)) o0_0) false)])
noncomputable def g_d (v:p_d.V) (K:KF α):Option α:=z_d N @wdG v K
theorem e_d (v:p_d.V) (K:KF α):wbB env (ct1 N) (i_d N) Tryz.f23 (SP.mkL p_d.slots v.1) (BP.mkL p_d.store v.2) K=g_d N v K:=Eq.trans (b:=z_d N @wdG.b v K) (by kernel_rfl) (by unfold g_d; rw [wdG.eq])
theorem o_d (N:Nat):wk gd P 23 (wa false p_d (g_d N)) :=
 wh fun v K h=>wJ hE hP (hct1 N) Tryz.func23 (by kernel_rfl) (body:=b_d) (by kernel_rfl) (by kernel_rfl) (wn.of (by kernel_rfl) (.cons (o_c N) .nil)) (loans:=BP.mkL p_d.store v.2) rfl ((e_d N v K).trans h)
noncomputable def ct2 (N:Nat):CT:=(23,(wa false p_d (g_d N)))::ct1 N
theorem hct2 (N:Nat):CTOK gd P (ct2 N):=.cons (o_d N) (hct1 N)

noncomputable def i_e (N:Nat):Fi:={ loans:=1,owns:=true,results:=[.tmp 4],rtys:=[3],blks:=[],regs:=[],masks:=[] }
noncomputable def b_e:Code:=match Tryz.f85.body with | some c=>c | none=>.skip
noncomputable def p_e:Pt:=⟨[(.p 0 [] 0),(.i (.int .i64))],[(.box 107 (.i (.pair (.sl (.int .u8)) (.pair (.int .i64) .unit))) false)]⟩
noncomputable def z_e (F:type_of% @wt) (v:p_e.V) (K:KF α):Option α:=F N v.1.2.1 v.2.1 (fun o0_0 o0_1=>K (.iv (.int .i64) o0_0) [(.box 107 (.iv (.pair (.sl (.int .u8)) (.pair (.int .i64) .unit)) o0_1) false)])
noncomputable def g_e (v:p_e.V) (K:KF α):Option α:=z_e N @wt v K
theorem e_e (v:p_e.V) (K:KF α):wbB env (ct2 N) (i_e N) Tryz.f85 (SP.mkL p_e.slots v.1) (BP.mkL p_e.store v.2) K=g_e N v K:=Eq.trans (b:=z_e N @wt.b v K) (by kernel_rfl) (by unfold g_e; rw [wt.eq])
theorem o_e (N:Nat):wk gd P 85 (wa false p_e (g_e N)) :=
 wh fun v K h=>wJ hE hP (hct2 N) Tryz.func85 (by kernel_rfl) (body:=b_e) (by kernel_rfl) (by kernel_rfl) (wn.of (by kernel_rfl) .nil) (loans:=BP.mkL p_e.store v.2) rfl ((e_e N v K).trans h)
noncomputable def ct3 (N:Nat):CT:=(85,(wa false p_e (g_e N)))::ct2 N
theorem hct3 (N:Nat):CTOK gd P (ct3 N):=.cons (o_e N) (hct2 N)

noncomputable def i_f (N:Nat):Fi:={ loans:=1,owns:=true,results:=[.tmp 2],rtys:=[3],blks:=[],regs:=[],masks:=[] }
noncomputable def b_f:Code:=match Tryz.f41.body with | some c=>c | none=>.skip
noncomputable def p_f:Pt:=⟨[(.p 0 [] 0)],[(.box 107 (.i (.pair (.sl (.int .u8)) (.pair (.int .i64) .unit))) false)]⟩
noncomputable def z_f (F:type_of% @wbA) (v:p_f.V) (K:KF α):Option α:=F N v.2.1 (fun o0_0 o0_1=>K (.iv (.int .i64) o0_0) [(.box 107 (.iv (.pair (.sl (.int .u8)) (.pair (.int .i64) .unit)) o0_1) false)])
noncomputable def g_f (v:p_f.V) (K:KF α):Option α:=z_f N @wbA v K
theorem e_f (v:p_f.V) (K:KF α):wbB env (ct3 N) (i_f N) Tryz.f41 (SP.mkL p_f.slots v.1) (BP.mkL p_f.store v.2) K=g_f N v K:=Eq.trans (b:=z_f N @wbA.b v K) (by kernel_rfl) (by unfold g_f; rw [wbA.eq])
theorem o_f (N:Nat):wk gd P 41 (wa false p_f (g_f N)) :=
 wh fun v K h=>wJ hE hP (hct3 N) Tryz.func41 (by kernel_rfl) (body:=b_f) (by kernel_rfl) (by kernel_rfl) (wn.of (by kernel_rfl) .nil) (loans:=BP.mkL p_f.store v.2) rfl ((e_f N v K).trans h)
noncomputable def ct4 (N:Nat):CT:=(41,(wa false p_f (g_f N)))::ct3 N
theorem hct4 (N:Nat):CTOK gd P (ct4 N):=.cons (o_f N) (hct3 N)

noncomputable def i_g (N:Nat):Fi:={ loans:=1,owns:=true,results:=[.tmp 4],rtys:=[3],blks:=[],regs:=[],masks:=[] }
noncomputable def b_g:Code:=match Tryz.f37.body with | some c=>c | none=>.skip
noncomputable def p_g:Pt:=⟨[(.p 0 [] 0),(.i (.int .i64))],[(.box 90 (.i (.pair (.sl (.int .u8)) (.pair (.int .i64) .unit))) false)]⟩
noncomputable def z_g (F:type_of% @wu) (v:p_g.V) (K:KF α):Option α:=F N v.1.2.1 v.2.1 (fun o0_0 o0_1=>K (.iv (.int .i64) o0_0) [(.box 90 (.iv (.pair (.sl (.int .u8)) (.pair (.int .i64) .unit)) o0_1) false)])
noncomputable def g_g (v:p_g.V) (K:KF α):Option α:=z_g N @wu v K
theorem e_g (v:p_g.V) (K:KF α):wbB env (ct4 N) (i_g N) Tryz.f37 (SP.mkL p_g.slots v.1) (BP.mkL p_g.store v.2) K=g_g N v K:=Eq.trans (b:=z_g N @wu.b v K) (by kernel_rfl) (by unfold g_g; rw [wu.eq])
theorem o_g (N:Nat):wk gd P 37 (wa false p_g (g_g N)) :=
 wh fun v K h=>wJ hE hP (hct4 N) Tryz.func37 (by kernel_rfl) (body:=b_g) (by kernel_rfl) (by kernel_rfl) (wn.of (by kernel_rfl) .nil) (loans:=BP.mkL p_g.store v.2) rfl ((e_g N v K).trans h)
noncomputable def ct5 (N:Nat):CT:=(37,(wa false p_g (g_g N)))::ct4 N
theorem hct5 (N:Nat):CTOK gd P (ct5 N):=.cons (o_g N) (hct4 N)

noncomputable def p_h:Pt:=⟨(.i (.int .u64))::.u::.u::(.o 0)::ups 11 ([]),[(.arr 3 (.int .i64) false)]⟩
noncomputable def z_h (F:type_of% (@wco α 0 0)) (v:p_h.V) (K:KO α):Option α:=F v.1.1 v.2.1 (fun o0_0=>K (.normal ⟨U::U::U::(.own 0)::us 11 ([]),[(.arr 3 (.int .i64) o0_0 false)]⟩))
noncomputable def g_h (n:Nat) (v:p_h.V) (K:KO α):Option α:=z_h (wco N n) v K
noncomputable def q_h (N:Nat):Piece:=(wj 65 p_h (g_h N N))
noncomputable def i_i (N:Nat):Fi:={ loans:=0,owns:=true,results:=[.tmp 2],rtys:=[23],blks:=[(0,q_h N)],regs:=[],masks:=[(0,64)] }
noncomputable def b_i:Code:=match Tryz.f47.body with | some c=>c | none=>.skip
noncomputable def n_h:Code:=(.block 0 (.loop (wq b_i [1,1,0,0,0])))
theorem e_h (n:Nat) (v:p_h.V) (K:KO α):wbe env (ct5 N) (i_i N) 65 (wj 65 p_h (g_h N n)).run n_h (p_h.mk' v) K=g_h N (n + 1) v K:=Eq.trans (b:=z_h (fun x0 x1 k0=>wg6 N (fun y0 y1=>wco N n y0 y1 k0) k0 x0 x1) v K) (by kernel_rfl) (by unfold g_h z_h; rw [wco.succ])
theorem o_h (N:Nat):wv gd P (i_i N) n_h (q_h N) :=
 wI hE hP (hct5 N) (wn.of (by kernel_rfl) .nil) (fun n {_}=>g_h N n) (fun _ _=>wco.zero ..) (fun n {_} v K=>e_h N n v K) N
noncomputable def p_i:Pt:=⟨[(.i (.int .u64))],[]⟩
noncomputable def z_i (F:type_of% @wdB) (v:p_i.V) (K:KF α):Option α:=F N v.1.1 (fun o0_0=>K (.own 0) [(.arr 3 (.int .i64) o0_0 false)])
noncomputable def g_i (v:p_i.V) (K:KF α):Option α:=z_i N @wdB v K
theorem e_i (v:p_i.V) (K:KF α):wbB env (ct5 N) (i_i N) Tryz.f47 (SP.mkL p_i.slots v.1) (BP.mkL p_i.store v.2) K=g_i N v K:=Eq.trans (b:=z_i N @wdB.b v K) (by kernel_rfl) (by unfold g_i; rw [wdB.eq])
theorem o_i (N:Nat):wk gd P 47 (wa false p_i (g_i N)) :=
 wh fun v K h=>wJ hE hP (hct5 N) Tryz.func47 (by kernel_rfl) (body:=b_i) (by kernel_rfl) (by kernel_rfl) (wn.of (by kernel_rfl) (.cons (o_h N) .nil)) (loans:=BP.mkL p_i.store v.2) rfl ((e_i N v K).trans h)
noncomputable def ct6 (N:Nat):CT:=(47,(wa false p_i (g_i N)))::ct5 N
theorem hct6 (N:Nat):CTOK gd P (ct6 N):=.cons (o_i N) (hct5 N)

noncomputable def p_j:Pt:=⟨(.i (.sl (.int .i64)))::.u::.u::(.i (.int .i64))::ups 33 ([]),[]⟩
noncomputable def z_j (F:type_of% (@wcb α 0 0)) (v:p_j.V) (K:KO α):Option α:=F v.1.1 v.1.2.2.2.1 (fun o0_0=>K (.ret (.iv .bool o0_0) [])) (fun o1_0=>K (.normal ⟨(.iv (.sl (.int .i64)) o1_0)::us 36 ([]),[]⟩))
noncomputable def g_j (n:Nat) (v:p_j.V) (K:KO α):Option α:=z_j (wcb N n) v K
noncomputable def q_j (N:Nat):Piece:=(wj 65 p_j (g_j N N))
noncomputable def i_k (N:Nat):Fi:={ loans:=0,owns:=true,results:=[.tmp 2],rtys:=[4],blks:=[(0,q_j N)],regs:=[],masks:=[(0,1)] }
noncomputable def b_k:Code:=match Tryz.f28.body with | some c=>c | none=>.skip
noncomputable def n_j:Code:=(.block 0 (.loop (wq b_k [1,1,0,1,0,0])))
theorem e_j (n:Nat) (v:p_j.V) (K:KO α):wbe env (ct6 N) (i_k N) 65 (wj 65 p_j (g_j N n)).run n_j (p_j.mk' v) K=g_j N (n + 1) v K:=Eq.trans (b:=z_j (fun x0 x1 k0 k1=>wgl N (fun y0 y1=>wcb N n y0 y1 k0 k1) k0 k1 x0 x1) v K) (by kernel_rfl) (by unfold g_j z_j; rw [wcb.succ])
theorem o_j (N:Nat):wv gd P (i_k N) n_j (q_j N) :=
 wI hE hP (hct6 N) (wn.of (by kernel_rfl) .nil) (fun n {_}=>g_j N n) (fun _ _=>wcb.zero ..) (fun n {_} v K=>e_j N n v K) N
noncomputable def p_k:Pt:=⟨[(.i (.sl (.int .i64)))],[]⟩
noncomputable def z_k (F:type_of% @wd3) (v:p_k.V) (K:KF α):Option α:=F N v.1.1 (fun o0_0=>K (.iv .bool o0_0) [])
noncomputable def g_k (v:p_k.V) (K:KF α):Option α:=z_k N @wd3 v K
theorem e_k (v:p_k.V) (K:KF α):wbB env (ct6 N) (i_k N) Tryz.f28 (SP.mkL p_k.slots v.1) (BP.mkL p_k.store v.2) K=g_k N v K:=Eq.trans (b:=z_k N @wd3.b v K) (by kernel_rfl) (by unfold g_k; rw [wd3.eq])
theorem o_k (N:Nat):wk gd P 28 (wa false p_k (g_k N)) :=
 wh fun v K h=>wJ hE hP (hct6 N) Tryz.func28 (by kernel_rfl) (body:=b_k) (by kernel_rfl) (by kernel_rfl) (wn.of (by kernel_rfl) (.cons (o_j N) .nil)) (loans:=BP.mkL p_k.store v.2) rfl ((e_k N v K).trans h)
noncomputable def ct7 (N:Nat):CT:=(28,(wa false p_k (g_k N)))::ct6 N
theorem hct7 (N:Nat):CTOK gd P (ct7 N):=.cons (o_k N) (hct6 N)

noncomputable def p_l:Pt:=⟨(.i (.sl (.int .i64)))::.u::.u::(.i (.int .i64))::ups 29 ([]),[]⟩
noncomputable def z_l (F:type_of% (@wbK α 0 0)) (v:p_l.V) (K:KO α):Option α:=F v.1.1 v.1.2.2.2.1 (fun o0_0 o0_1=>K (.normal ⟨(.iv (.sl (.int .i64)) o0_0)::U::U::(.iv (.int .i64) o0_1)::us 29 ([]),[]⟩))
noncomputable def g_l (n:Nat) (v:p_l.V) (K:KO α):Option α:=z_l (wbK N n) v K
noncomputable def p_m:Pt:=⟨(.i (.sl (.int .i64)))::.u::.u::(.i (.int .i64))::(.o 0)::(.i (.int .i64))::ups 27 ([]),[(.arr 3 (.int .i64) false)]⟩
noncomputable def z_m (F:type_of% (@wbH α 0 0)) (v:p_m.V) (K:KO α):Option α:=F v.1.1 v.1.2.2.2.1 v.1.2.2.2.2.2.1 v.2.1 (fun o0_0=>K (.normal ⟨us 4 ((.own 0)::us 28 ([])),[(.arr 3 (.int .i64) o0_0 false)]⟩))
noncomputable def g_m (n:Nat) (v:p_m.V) (K:KO α):Option α:=z_m (wbH N n) v K
noncomputable def q_l (N:Nat):Piece:=(wj 65 p_l (g_l N N))
noncomputable def q_m (N:Nat):Piece:=(wj 1345 p_m (g_m N N))
noncomputable def i_n (N:Nat):Fi:={ loans:=0,owns:=true,results:=[.tmp 2],rtys:=[23],blks:=[(0,q_l N),(2,q_m N)],regs:=[],masks:=[(0,65),(2,256)] }
noncomputable def b_n:Code:=match Tryz.f44.body with | some c=>c | none=>.skip
noncomputable def n_l:Code:=(.block 0 (.loop (wq b_n [1,1,0,0,0])))
noncomputable def n_m:Code:=(.block 2 (.loop (wq b_n [1,1,1,1,0,1,0,0])))
theorem e_l (n:Nat) (v:p_l.V) (K:KO α):wbe env (ct7 N) (i_n N) 65 (wj 65 p_l (g_l N n)).run n_l (p_l.mk' v) K=g_l N (n + 1) v K:=Eq.trans (b:=z_l (fun x0 x1 k0=>wf5 N (fun y0 y1=>wbK N n y0 y1 k0) k0 x0 x1) v K) (by kernel_rfl) (by unfold g_l z_l; rw [wbK.succ])
theorem o_l (N:Nat):wv gd P (i_n N) n_l (q_l N) :=
 wI hE hP (hct7 N) (wn.of (by kernel_rfl) .nil) (fun n {_}=>g_l N n) (fun _ _=>wbK.zero ..) (fun n {_} v K=>e_l N n v K) N
theorem e_m (n:Nat) (v:p_m.V) (K:KO α):wbe env (ct7 N) (i_n N) 1345 (wj 1345 p_m (g_m N n)).run n_m (p_m.mk' v) K=g_m N (n + 1) v K:=Eq.trans (b:=z_m (fun x0 x1 x2 x3 k0=>wfY N (fun y0 y1 y2 y3=>wbH N n y0 y1 y2 y3 k0) k0 x0 x1 x2 x3) v K) (by kernel_rfl) (by unfold g_m z_m; rw [wbH.succ])
theorem o_m (N:Nat):wv gd P (i_n N) n_m (q_m N) :=
 wI hE hP (hct7 N) (wn.of (by kernel_rfl) .nil) (fun n {_}=>g_m N n) (fun _ _=>wbH.zero ..) (fun n {_} v K=>e_m N n v K) N
noncomputable def p_n:Pt:=⟨[(.i (.sl (.int .i64)))],[]⟩
noncomputable def z_n (F:type_of% @wcs) (v:p_n.V) (K:KF α):Option α:=F N v.1.1 (fun o0_0=>K (.own 0) [(.arr 3 (.int .i64) o0_0 false)])
noncomputable def g_n (v:p_n.V) (K:KF α):Option α:=z_n N @wcs v K
theorem e_n (v:p_n.V) (K:KF α):wbB env (ct7 N) (i_n N) Tryz.f44 (SP.mkL p_n.slots v.1) (BP.mkL p_n.store v.2) K=g_n N v K:=Eq.trans (b:=z_n N @wcs.b v K) (by kernel_rfl) (by unfold g_n; rw [wcs.eq])
theorem o_n (N:Nat):wk gd P 44 (wa false p_n (g_n N)) :=
 wh fun v K h=>wJ hE hP (hct7 N) Tryz.func44 (by kernel_rfl) (body:=b_n) (by kernel_rfl) (by kernel_rfl) (wn.of (by kernel_rfl) (.cons (o_l N) (.cons (o_m N) .nil))) (loans:=BP.mkL p_n.store v.2) rfl ((e_n N v K).trans h)
noncomputable def ct8 (N:Nat):CT:=(44,(wa false p_n (g_n N)))::ct7 N
theorem hct8 (N:Nat):CTOK gd P (ct8 N):=.cons (o_n N) (hct7 N)

noncomputable def p_o:Pt:=⟨(.i (.sl (.int .i64)))::(.i (.int .i64))::ups 4 ((.o 0)::(.i (.int .i64))::(.i (.int .i64))::ups 30 ([])),[(.arr 3 (.int .i64) false)]⟩
noncomputable def z_o (F:type_of% (@wO α 0 0)) (v:p_o.V) (K:KO α):Option α:=F v.1.1 v.1.2.1 (nx 4 v.1.2.2).2.1 (nx 4 v.1.2.2).2.2.1 v.2.1 (fun o0_0 o0_1=>K (.normal ⟨us 6 ((.own 0)::(.iv (.int .i64) o0_0)::us 31 ([])),[(.arr 3 (.int .i64) o0_1 false)]⟩))
noncomputable def g_o (n:Nat) (v:p_o.V) (K:KO α):Option α:=z_o (wO N n) v K
noncomputable def q_o (N:Nat):Piece:=(wj 86021 p_o (g_o N N))
noncomputable def i_p (N:Nat):Fi:={ loans:=0,owns:=true,results:=[.tmp 4,.tmp 5],rtys:=[23,3],blks:=[(0,q_o N)],regs:=[],masks:=[(0,20480)] }
noncomputable def b_p:Code:=match Tryz.f116.body with | some c=>c | none=>.skip
noncomputable def n_o:Code:=(.block 0 (.loop (wq b_p [1,1,1,0,1,0,0])))
theorem e_o (n:Nat) (v:p_o.V) (K:KO α):wbe env (ct8 N) (i_p N) 86021 (wj 86021 p_o (g_o N n)).run n_o (p_o.mk' v) K=g_o N (n + 1) v K:=Eq.trans (b:=z_o (fun x0 x1 x2 x3 x4 k0=>wfh N (fun y0 y1 y2 y3 y4=>wO N n y0 y1 y2 y3 y4 k0) k0 x0 x1 x2 x3 x4) v K) (by kernel_rfl) (by unfold g_o z_o; rw [wO.succ])
theorem o_o (N:Nat):wv gd P (i_p N) n_o (q_o N) :=
 wI hE hP (hct8 N) (wn.of (by kernel_rfl) .nil) (fun n {_}=>g_o N n) (fun _ _=>wO.zero ..) (fun n {_} v K=>e_o N n v K) N
noncomputable def p_p:Pt:=⟨[(.i (.sl (.int .i64))),(.i (.int .i64))],[]⟩
noncomputable def z_p (F:type_of% @wcz) (v:p_p.V) (K:KF α):Option α:=F N v.1.1 v.1.2.1 (fun o0_0 o0_1=>K (.tuple [(.own 0),(.iv (.int .i64) o0_0)]) [(.arr 3 (.int .i64) o0_1 false)])
noncomputable def g_p (v:p_p.V) (K:KF α):Option α:=z_p N @wcz v K
theorem e_p (v:p_p.V) (K:KF α):wbB env (ct8 N) (i_p N) Tryz.f116 (SP.mkL p_p.slots v.1) (BP.mkL p_p.store v.2) K=g_p N v K:=Eq.trans (b:=z_p N @wcz.b v K) (by kernel_rfl) (by unfold g_p; rw [wcz.eq])
theorem o_p (N:Nat):wk gd P 116 (wa false p_p (g_p N)) :=
 wh fun v K h=>wJ hE hP (hct8 N) Tryz.func116 (by kernel_rfl) (body:=b_p) (by kernel_rfl) (by kernel_rfl) (wn.of (by kernel_rfl) (.cons (o_o N) .nil)) (loans:=BP.mkL p_p.store v.2) rfl ((e_p N v K).trans h)
noncomputable def ct9 (N:Nat):CT:=(116,(wa false p_p (g_p N)))::ct8 N
theorem hct9 (N:Nat):CTOK gd P (ct9 N):=.cons (o_p N) (hct8 N)

noncomputable def p_q:Pt:=⟨.u::.u::.u::(.o 0)::(.i (.sl (.int .i64)))::ups 42 ([]),[(.arr 5 (.int .u8) false)]⟩
noncomputable def z_q (F:type_of% (@wbw α 0 0)) (v:p_q.V) (K:KO α):Option α:=F v.1.2.2.2.2.1 v.2.1 (fun o0_0=>K (.normal ⟨U::U::U::(.own 0)::us 43 ([]),[(.arr 5 (.int .u8) o0_0 false)]⟩))
noncomputable def g_q (n:Nat) (v:p_q.V) (K:KO α):Option α:=z_q (wbw N n) v K
noncomputable def p_r:Pt:=⟨.u::.u::.u::(.o 0)::.u::.u::.u::(.o 1)::(.i (.int .i64))::ups 38 ([]),[(.arr 5 (.int .u8) false),(.arr 5 (.int .u8) false)]⟩
noncomputable def z_r (F:type_of% (@wbo α 0 0)) (v:p_r.V) (K:KO α):Option α:=F v.1.2.2.2.2.2.2.2.2.1 v.2.1 v.2.2.1 (fun o0_0=>K (.normal ⟨us 7 ((.own 0)::us 39 ([])),[(.arr 5 (.int .u8) o0_0 false)]⟩))
noncomputable def g_r (n:Nat) (v:p_r.V) (K:KO α):Option α:=z_r (wbo N n) v K
noncomputable def q_q (N:Nat):Piece:=(wj 832 p_q (g_q N N))
noncomputable def q_r (N:Nat):Piece:=(wj 81984 p_r (g_r N N))
noncomputable def i_s (N:Nat):Fi:={ loans:=0,owns:=true,results:=[.tmp 2],rtys:=[9],blks:=[(0,q_q N),(2,q_r N)],regs:=[],masks:=[(0,64),(2,16384)] }
noncomputable def b_s:Code:=match Tryz.f73.body with | some c=>c | none=>.skip
noncomputable def n_q:Code:=(.block 0 (.loop (wq b_s [1,1,1,1,1,0,0,0])))
noncomputable def n_r:Code:=(.block 2 (.loop (wq b_s [1,1,1,1,1,1,1,0,1,0,0])))
theorem e_q (n:Nat) (v:p_q.V) (K:KO α):wbe env (ct9 N) (i_s N) 832 (wj 832 p_q (g_q N n)).run n_q (p_q.mk' v) K=g_q N (n + 1) v K:=Eq.trans (b:=z_q (fun x0 x1 k0=>wgx N (fun y0 y1=>wbw N n y0 y1 k0) k0 x0 x1) v K) (by kernel_rfl) (by unfold g_q z_q; rw [wbw.succ])
theorem o_q (N:Nat):wv gd P (i_s N) n_q (q_q N) :=
 wI hE hP (hct9 N) (wn.of (by kernel_rfl) .nil) (fun n {_}=>g_q N n) (fun _ _=>wbw.zero ..) (fun n {_} v K=>e_q N n v K) N
theorem e_r (n:Nat) (v:p_r.V) (K:KO α):wbe env (ct9 N) (i_s N) 81984 (wj 81984 p_r (g_r N n)).run n_r (p_r.mk' v) K=g_r N (n + 1) v K:=Eq.trans (b:=z_r (fun x0 x1 x2 k0=>wfM N (fun y0 y1 y2=>wbo N n y0 y1 y2 k0) k0 x0 x1 x2) v K) (by kernel_rfl) (by unfold g_r z_r; rw [wbo.succ])
theorem o_r (N:Nat):wv gd P (i_s N) n_r (q_r N) :=
 wI hE hP (hct9 N) (wn.of (by kernel_rfl) .nil) (fun n {_}=>g_r N n) (fun _ _=>wbo.zero ..) (fun n {_} v K=>e_r N n v K) N
noncomputable def p_s:Pt:=⟨[(.i (.sl (.int .i64)))],[]⟩
noncomputable def z_s (F:type_of% @wdM) (v:p_s.V) (K:KF α):Option α:=F N v.1.1 (fun o0_0=>K (.iv .str o0_0) [])
noncomputable def g_s (v:p_s.V) (K:KF α):Option α:=z_s N @wdM v K
theorem e_s (v:p_s.V) (K:KF α):wbB env (ct9 N) (i_s N) Tryz.f73 (SP.mkL p_s.slots v.1) (BP.mkL p_s.store v.2) K=g_s N v K:=Eq.trans (b:=z_s N @wdM.b v K) (by kernel_rfl) (by unfold g_s; rw [wdM.eq])
theorem o_s (N:Nat):wk gd P 73 (wa false p_s (g_s N)) :=
 wh fun v K h=>wJ hE hP (hct9 N) Tryz.func73 (by kernel_rfl) (body:=b_s) (by kernel_rfl) (by kernel_rfl) (wn.of (by kernel_rfl) (.cons (o_q N) (.cons (o_r N) .nil))) (loans:=BP.mkL p_s.store v.2) rfl ((e_s N v K).trans h)
noncomputable def ct10 (N:Nat):CT:=(73,(wa false p_s (g_s N)))::ct9 N
theorem wmP (N:Nat):CTOK gd P (ct10 N):=.cons (o_s N) (hct9 N)

noncomputable def p_t:Pt:=⟨(.p 0 [] 0)::.u::.u::(.i (.int .i64))::ups 66 ([]),[(.box 90 (.i (.pair (.sl (.int .u8)) (.pair (.int .i64) .unit))) false)]⟩
noncomputable def z_t (F:type_of% @wce) (v:p_t.V) (K:KO α):Option α:=F N v.1.2.2.2.1 v.2.1 (fun o0_0 o0_1=>K (.normal ⟨(.lp 0 [] 0)::U::U::(.iv (.int .i64) o0_0)::us 66 ([]),[(.box 90 (.iv (.pair (.sl (.int .u8)) (.pair (.int .i64) .unit)) o0_1) false)]⟩))
noncomputable def g_t (v:p_t.V) (K:KO α):Option α:=z_t N @wce v K
noncomputable def p_u:Pt:=⟨(.p 0 [] 0)::.u::.u::(.i (.int .i64))::ups 7 ((.i (.int .i64))::ups 58 ([])),[(.box 90 (.i (.pair (.sl (.int .u8)) (.pair (.int .i64) .unit))) false)]⟩
noncomputable def z_u (F:type_of% @wbk) (v:p_u.V) (K:KO α):Option α:=F N v.1.2.2.2.1 (nx 7 v.1.2.2.2.2).1 v.2.1 (fun o0_0 o0_1=>K (.normal ⟨(.lp 0 [] 0)::U::U::(.iv (.int .i64) o0_0)::us 66 ([]),[(.box 90 (.iv (.pair (.sl (.int .u8)) (.pair (.int .i64) .unit)) o0_1) false)]⟩)) (fun o1_0 o1_1=>K (.ret (.own 1) [(.box 90 (.iv (.pair (.sl (.int .u8)) (.pair (.int .i64) .unit)) o1_0) false),(.arr 3 (.int .i64) o1_1 false)]))
noncomputable def g_u (v:p_u.V) (K:KO α):Option α:=z_u N @wbk v K
noncomputable def p_v:Pt:=⟨(.p 0 [] 0)::.u::.u::(.i (.int .i64))::ups 7 ((.i (.int .i64))::ups 58 ([])),[(.box 90 (.i (.pair (.sl (.int .u8)) (.pair (.int .i64) .unit))) false)]⟩
noncomputable def z_v (F:type_of% @wQ) (v:p_v.V) (K:KO α):Option α:=F N v.1.2.2.2.1 (nx 7 v.1.2.2.2.2).1 v.2.1 (fun o0_0 o0_1=>K (.normal ⟨(.lp 0 [] 0)::U::U::(.iv (.int .i64) o0_0)::us 66 ([]),[(.box 90 (.iv (.pair (.sl (.int .u8)) (.pair (.int .i64) .unit)) o0_1) false)]⟩)) (fun o1_0 o1_1=>K (.ret (.own 1) [(.box 90 (.iv (.pair (.sl (.int .u8)) (.pair (.int .i64) .unit)) o1_0) false),(.arr 3 (.int .i64) o1_1 false)]))
noncomputable def g_v (v:p_v.V) (K:KO α):Option α:=z_v N @wQ v K
noncomputable def p_w:Pt:=⟨(.p 0 [] 0)::.u::.u::(.i (.int .i64))::(.i (.int .i64))::(.o 1)::(.i (.int .i64))::(.i (.int .i64))::ups 62 ([]),[(.box 90 (.i (.pair (.sl (.int .u8)) (.pair (.int .i64) .unit))) false),(.arr 3 (.int .i64) false)]⟩
noncomputable def z_w (F:type_of% @wbt) (v:p_w.V) (K:KO α):Option α:=F N v.1.2.2.2.1 v.1.2.2.2.2.1 v.1.2.2.2.2.2.2.1 v.1.2.2.2.2.2.2.2.1 v.2.1 v.2.2.1 (fun o0_0 o0_1 o0_2 o0_3 o0_4 o0_5=>K (.normal ⟨(.lp 0 [] 0)::U::U::(.iv (.int .i64) o0_0)::(.iv (.int .i64) o0_1)::(.own 1)::(.iv (.int .i64) o0_2)::(.iv (.int .i64) o0_3)::us 62 ([]),[(.box 90 (.iv (.pair (.sl (.int .u8)) (.pair (.int .i64) .unit)) o0_4) false),(.arr 3 (.int .i64) o0_5 false)]⟩))
noncomputable def g_w (v:p_w.V) (K:KO α):Option α:=z_w N @wbt v K
noncomputable def p_x:Pt:=⟨(.p 0 [] 0)::.u::.u::(.i (.int .i64))::(.i (.int .i64))::(.o 1)::(.i (.int .i64))::(.i (.int .i64))::ups 62 ([]),[(.box 90 (.i (.pair (.sl (.int .u8)) (.pair (.int .i64) .unit))) false),(.arr 3 (.int .i64) false)]⟩
noncomputable def z_x (F:type_of% @wbs) (v:p_x.V) (K:KO α):Option α:=F N v.1.2.2.2.1 v.1.2.2.2.2.1 v.1.2.2.2.2.2.2.1 v.1.2.2.2.2.2.2.2.1 v.2.1 v.2.2.1 (fun o0_0 o0_1 o0_2 o0_3 o0_4 o0_5=>K (.normal ⟨(.lp 0 [] 0)::U::U::(.iv (.int .i64) o0_0)::(.iv (.int .i64) o0_1)::(.own 1)::(.iv (.int .i64) o0_2)::(.iv (.int .i64) o0_3)::us 62 ([]),[(.box 90 (.iv (.pair (.sl (.int .u8)) (.pair (.int .i64) .unit)) o0_4) false),(.arr 3 (.int .i64) o0_5 false)]⟩))
noncomputable def g_x (v:p_x.V) (K:KO α):Option α:=z_x N @wbs v K
noncomputable def p_y:Pt:=⟨(.p 0 [] 0)::.u::.u::(.i (.int .i64))::(.i (.int .i64))::(.o 1)::(.i (.int .i64))::ups 63 ([]),[(.box 90 (.i (.pair (.sl (.int .u8)) (.pair (.int .i64) .unit))) false),(.arr 3 (.int .i64) false)]⟩
noncomputable def z_y (F:type_of% (@wN α 0 0)) (v:p_y.V) (K:KO α):Option α:=F v.1.2.2.2.1 v.1.2.2.2.2.1 v.1.2.2.2.2.2.2.1 v.2.1 v.2.2.1 (fun o0_0 o0_1 o0_2=>K (.normal ⟨(.lp 0 [] 0)::U::U::(.iv (.int .i64) o0_0)::U::(.own 1)::us 64 ([]),[(.box 90 (.iv (.pair (.sl (.int .u8)) (.pair (.int .i64) .unit)) o0_1) false),(.arr 3 (.int .i64) o0_2 false)]⟩))
noncomputable def g_y (n:Nat) (v:p_y.V) (K:KO α):Option α:=z_y (wN N n) v K
noncomputable def p_z:Pt:=⟨(.p 0 [] 0)::.u::.u::(.i (.int .i64))::.u::(.o 1)::ups 64 ([]),[(.box 90 (.i (.pair (.sl (.int .u8)) (.pair (.int .i64) .unit))) false),(.arr 3 (.int .i64) false)]⟩
noncomputable def z_z (F:type_of% @wbf) (v:p_z.V) (K:KO α):Option α:=F N v.1.2.2.2.1 v.2.1 v.2.2.1 (fun o0_0 o0_1=>K (.normal ⟨us 5 ((.own 1)::us 64 ([])),[(.box 90 (.iv (.pair (.sl (.int .u8)) (.pair (.int .i64) .unit)) o0_0) false),(.arr 3 (.int .i64) o0_1 false)]⟩))
noncomputable def g_z (v:p_z.V) (K:KO α):Option α:=z_z N @wbf v K
noncomputable def q_t (N:Nat):Piece:=(wj 65 p_t (g_t N))
noncomputable def q_u (N:Nat):Piece:=(wj 4194369 p_u (g_u N))
noncomputable def q_v (N:Nat):Piece:=(wj 4194369 p_v (g_v N))
noncomputable def q_w (N:Nat):Piece:=(wj 21825 p_w (g_w N))
noncomputable def q_x (N:Nat):Piece:=(wj 21825 p_x (g_x N))
noncomputable def q_y (N:Nat):Piece:=(wj 5441 p_y (g_y N N))
noncomputable def q_z (N:Nat):Piece:=(wj 1089 p_z (g_z N))
noncomputable def i_A (N:Nat):Fi:={ loans:=1,owns:=true,results:=[.tmp 2],rtys:=[23],blks:=[(1,q_y N)],regs:=[(6,q_t N),(5,q_u N),(3,q_v N),(16,q_w N),(18,q_x N),(21,q_z N)],masks:=[(1,1089)] }
noncomputable def b_A:Code:=match Tryz.f74.body with | some c=>c | none=>.skip
noncomputable def n_t:Code:=(.seq (wq b_A [1,1,0,1,0,1,1,1,0,0]) (wq b_A [1,1,0,1,0,1,1,1,0,1]))
noncomputable def n_u:Code:=(.seq (wq b_A [1,1,0,1,0,1,1,0]) (wq b_A [1,1,0,1,0,1,1,1]))
noncomputable def n_v:Code:=(.seq (wq b_A [1,1,0,1,0,0]) (wq b_A [1,1,0,1,0,1]))
noncomputable def n_w:Code:=(.seq (wq b_A [1,1,1,1,1,0,1,0,0,1,0,0,1,0,0]) (wq b_A [1,1,1,1,1,0,1,0,0,1,0,0,1,0,1]))
noncomputable def n_x:Code:=(.seq (wq b_A [1,1,1,1,1,0,1,0,0,1,0,0,1,1,0,0]) (wq b_A [1,1,1,1,1,0,1,0,0,1,0,0,1,1,0,1]))
noncomputable def n_y:Code:=(.block 1 (.loop (wq b_A [1,1,1,1,1,0,1,0,0])))
noncomputable def n_z:Code:=(.seq (wq b_A [1,1,1,1,1,1,0,0]) (wq b_A [1,1,1,1,1,1,0,1]))
theorem e_t (v:p_t.V) (K:KO α):wcK env (ct10 N) (i_A N) 65 n_t (p_t.mk' v) K=g_t N v K:=Eq.trans (b:=z_t N @wce.b v K) (by kernel_rfl) (by unfold g_t; rw [wce.eq])
theorem o_t (N:Nat):wv gd P (i_A N) n_t (q_t N) :=
 wG hE hP (wmP N) (wn.of (by kernel_rfl) .nil) (wn.of (by kernel_rfl) .nil) (e_t N)
theorem e_u (v:p_u.V) (K:KO α):wcK env (ct10 N) (i_A N) 65 n_u (p_u.mk' v) K=g_u N v K:=Eq.trans (b:=z_u N @wbk.b v K) (by kernel_rfl) (by unfold g_u; rw [wbk.eq])
theorem o_u (N:Nat):wv gd P (i_A N) n_u (q_u N) :=
 wG hE hP (wmP N) (wn.of (by kernel_rfl) .nil) (wn.of (by kernel_rfl) (.cons (o_t N) .nil)) (e_u N)
theorem e_v (v:p_v.V) (K:KO α):wcK env (ct10 N) (i_A N) 65 n_v (p_v.mk' v) K=g_v N v K:=Eq.trans (b:=z_v N @wQ.b v K) (by kernel_rfl) (by unfold g_v; rw [wQ.eq])
theorem o_v (N:Nat):wv gd P (i_A N) n_v (q_v N) :=
 wG hE hP (wmP N) (wn.of (by kernel_rfl) .nil) (wn.of (by kernel_rfl) (.cons (o_u N) .nil)) (e_v N)
theorem e_w (v:p_w.V) (K:KO α):wcK env (ct10 N) (i_A N) 21825 n_w (p_w.mk' v) K=g_w N v K:=Eq.trans (b:=z_w N @wbt.b v K) (by kernel_rfl) (by unfold g_w; rw [wbt.eq])
theorem o_w (N:Nat):wv gd P (i_A N) n_w (q_w N) :=
 wG hE hP (wmP N) (wn.of (by kernel_rfl) .nil) (wn.of (by kernel_rfl) .nil) (e_w N)
theorem e_x (v:p_x.V) (K:KO α):wcK env (ct10 N) (i_A N) 21825 n_x (p_x.mk' v) K=g_x N v K:=Eq.trans (b:=z_x N @wbs.b v K) (by kernel_rfl) (by unfold g_x; rw [wbs.eq])
theorem o_x (N:Nat):wv gd P (i_A N) n_x (q_x N) :=
 wG hE hP (wmP N) (wn.of (by kernel_rfl) .nil) (wn.of (by kernel_rfl) .nil) (e_x N)
theorem e_y (n:Nat) (v:p_y.V) (K:KO α):wbe env (ct10 N) (i_A N) 5441 (wj 5441 p_y (g_y N n)).run n_y (p_y.mk' v) K=g_y N (n + 1) v K:=Eq.trans (b:=z_y (fun x0 x1 x2 x3 x4 k0=>weu N (fun y0 y1 y2 y3 y4=>wN N n y0 y1 y2 y3 y4 k0) k0 x0 x1 x2 x3 x4) v K) (by kernel_rfl) (by unfold g_y z_y; rw [wN.succ])
theorem o_y (N:Nat):wv gd P (i_A N) n_y (q_y N) :=
 wI hE hP (wmP N) (wn.of (by kernel_rfl) (.cons (o_w N) (.cons (o_x N) .nil))) (fun n {_}=>g_y N n) (fun _ _=>wN.zero ..) (fun n {_} v K=>e_y N n v K) N
theorem e_z (v:p_z.V) (K:KO α):wcK env (ct10 N) (i_A N) 1024 n_z (p_z.mk' v) K=g_z N v K:=Eq.trans (b:=z_z N @wbf.b v K) (by kernel_rfl) (by unfold g_z; rw [wbf.eq])
theorem o_z (N:Nat):wv gd P (i_A N) n_z (q_z N) :=
 wG hE hP (wmP N) (wn.of (by kernel_rfl) .nil) (wn.of (by kernel_rfl) .nil) (e_z N)
noncomputable def p_A:Pt:=⟨[(.p 0 [] 0)],[(.box 90 (.i (.pair (.sl (.int .u8)) (.pair (.int .i64) .unit))) false)]⟩
noncomputable def z_A (F:type_of% @wc6) (v:p_A.V) (K:KF α):Option α:=F N v.2.1 (fun o0_0 o0_1=>K (.own 1) [(.box 90 (.iv (.pair (.sl (.int .u8)) (.pair (.int .i64) .unit)) o0_0) false),(.arr 3 (.int .i64) o0_1 false)])
noncomputable def g_A (v:p_A.V) (K:KF α):Option α:=z_A N @wc6 v K
theorem e_A (v:p_A.V) (K:KF α):wbB env (ct10 N) (i_A N) Tryz.f74 (SP.mkL p_A.slots v.1) (BP.mkL p_A.store v.2) K=g_A N v K:=Eq.trans (b:=z_A N @wc6.b v K) (by kernel_rfl) (by unfold g_A; rw [wc6.eq])
theorem o_A (N:Nat):wk gd P 74 (wa false p_A (g_A N)) :=
 wh fun v K h=>wJ hE hP (wmP N) Tryz.func74 (by kernel_rfl) (body:=b_A) (by kernel_rfl) (by kernel_rfl) (wn.of (by kernel_rfl) (.cons (o_v N) (.cons (o_y N) (.cons (o_z N) .nil)))) (loans:=BP.mkL p_A.store v.2) rfl ((e_A N v K).trans h)
noncomputable def ct11 (N:Nat):CT:=(74,(wa false p_A (g_A N)))::ct10 N
theorem wl0 (N:Nat):CTOK gd P (ct11 N):=.cons (o_A N) (wmP N)

noncomputable def p_B:Pt:=⟨(.p 0 [] 0)::.u::.u::(.i .str)::ups 81 ([]),[(.box 90 (.i (.pair (.sl (.int .u8)) (.pair (.int .i64) .unit))) false)]⟩
noncomputable def z_B (F:type_of% @wby) (v:p_B.V) (K:KO α):Option α:=F N v.1.2.2.2.1 v.2.1 (fun o0_0 o0_1=>K (.normal ⟨(.lp 0 [] 0)::U::U::(.iv .str o0_0)::us 81 ([]),[(.box 90 (.iv (.pair (.sl (.int .u8)) (.pair (.int .i64) .unit)) o0_1) false)]⟩))
noncomputable def g_B (v:p_B.V) (K:KO α):Option α:=z_B N @wby v K
noncomputable def p_C:Pt:=⟨(.p 0 [] 0)::.u::.u::(.i .str)::(.i (.int .i64))::ups 80 ([]),[(.box 90 (.i (.pair (.sl (.int .u8)) (.pair (.int .i64) .unit))) false)]⟩
noncomputable def z_C (F:type_of% @wbx) (v:p_C.V) (K:KO α):Option α:=F N v.1.2.2.2.1 v.1.2.2.2.2.1 v.2.1 (fun o0_0 o0_1 o0_2=>K (.normal ⟨(.lp 0 [] 0)::U::U::(.iv .str o0_0)::(.iv (.int .i64) o0_1)::us 80 ([]),[(.box 90 (.iv (.pair (.sl (.int .u8)) (.pair (.int .i64) .unit)) o0_2) false)]⟩))
noncomputable def g_C (v:p_C.V) (K:KO α):Option α:=z_C N @wbx v K
noncomputable def p_D:Pt:=⟨(.p 0 [] 0)::.u::.u::(.i .str)::(.i (.int .i64))::(.i (.int .i64))::ups 79 ([]),[(.box 90 (.i (.pair (.sl (.int .u8)) (.pair (.int .i64) .unit))) false)]⟩
noncomputable def z_D (F:type_of% (@wD α 0 0)) (v:p_D.V) (K:KO α):Option α:=F v.1.2.2.2.1 v.1.2.2.2.2.1 v.1.2.2.2.2.2.1 v.2.1 (fun o0_0 o0_1=>K (.normal ⟨(.lp 0 [] 0)::U::U::(.iv .str o0_0)::us 81 ([]),[(.box 90 (.iv (.pair (.sl (.int .u8)) (.pair (.int .i64) .unit)) o0_1) false)]⟩))
noncomputable def g_D (n:Nat) (v:p_D.V) (K:KO α):Option α:=z_D (wD N n) v K
noncomputable def p_E:Pt:=⟨(.p 0 [] 0)::.u::.u::(.i .str)::ups 81 ([]),[(.box 90 (.i (.pair (.sl (.int .u8)) (.pair (.int .i64) .unit))) false)]⟩
noncomputable def z_E (F:type_of% @wbv) (v:p_E.V) (K:KO α):Option α:=F N v.1.2.2.2.1 v.2.1 (fun o0_0 o0_1=>K (.normal ⟨(.lp 0 [] 0)::U::U::(.iv .str o0_0)::us 81 ([]),[(.box 90 (.iv (.pair (.sl (.int .u8)) (.pair (.int .i64) .unit)) o0_1) false)]⟩))
noncomputable def g_E (v:p_E.V) (K:KO α):Option α:=z_E N @wbv v K
noncomputable def p_F:Pt:=⟨(.p 0 [] 0)::.u::.u::(.i .str)::ups 81 ([]),[(.box 90 (.i (.pair (.sl (.int .u8)) (.pair (.int .i64) .unit))) false)]⟩
noncomputable def z_F (F:type_of% @wbj) (v:p_F.V) (K:KO α):Option α:=F N v.1.2.2.2.1 v.2.1 (fun o0_0 o0_1=>K (.normal ⟨(.lp 0 [] 0)::U::U::(.iv .str o0_0)::us 81 ([]),[(.box 90 (.iv (.pair (.sl (.int .u8)) (.pair (.int .i64) .unit)) o0_1) false)]⟩))
noncomputable def g_F (v:p_F.V) (K:KO α):Option α:=z_F N @wbj v K
noncomputable def p_G:Pt:=⟨(.p 0 [] 0)::.u::.u::(.i .str)::ups 59 ((.i (.int .i64))::ups 21 ([])),[(.box 90 (.i (.pair (.sl (.int .u8)) (.pair (.int .i64) .unit))) false)]⟩
noncomputable def z_G (F:type_of% @wbl) (v:p_G.V) (K:KO α):Option α:=F N v.1.2.2.2.1 (nx 59 v.1.2.2.2.2).1 v.2.1 (fun o0_0 o0_1=>K (.normal ⟨U::U::U::(.iv .str o0_0)::us 81 ([]),[(.box 90 (.iv (.pair (.sl (.int .u8)) (.pair (.int .i64) .unit)) o0_1) false)]⟩))
noncomputable def g_G (v:p_G.V) (K:KO α):Option α:=z_G N @wbl v K
noncomputable def p_H:Pt:=⟨(.p 0 [] 0)::.u::.u::(.i .str)::ups 59 ((.i (.int .i64))::ups 21 ([])),[(.box 90 (.i (.pair (.sl (.int .u8)) (.pair (.int .i64) .unit))) false)]⟩
noncomputable def z_H (F:type_of% @wbz) (v:p_H.V) (K:KO α):Option α:=F N v.1.2.2.2.1 (nx 59 v.1.2.2.2.2).1 v.2.1 (fun o0_0 o0_1=>K (.normal ⟨U::U::U::(.iv .str o0_0)::us 81 ([]),[(.box 90 (.iv (.pair (.sl (.int .u8)) (.pair (.int .i64) .unit)) o0_1) false)]⟩))
noncomputable def g_H (v:p_H.V) (K:KO α):Option α:=z_H N @wbz v K
noncomputable def p_I:Pt:=⟨(.p 0 [] 0)::.u::.u::(.i .str)::ups 59 ((.i (.int .i64))::ups 21 ([])),[(.box 90 (.i (.pair (.sl (.int .u8)) (.pair (.int .i64) .unit))) false)]⟩
noncomputable def z_I (F:type_of% @wbh) (v:p_I.V) (K:KO α):Option α:=F N v.1.2.2.2.1 (nx 59 v.1.2.2.2.2).1 v.2.1 (fun o0_0 o0_1=>K (.normal ⟨U::U::U::(.iv .str o0_0)::us 81 ([]),[(.box 90 (.iv (.pair (.sl (.int .u8)) (.pair (.int .i64) .unit)) o0_1) false)]⟩))
noncomputable def g_I (v:p_I.V) (K:KO α):Option α:=z_I N @wbh v K
noncomputable def q_B (N:Nat):Piece:=(wj 65 p_B (g_B N))
noncomputable def q_C (N:Nat):Piece:=(wj 321 p_C (g_C N))
noncomputable def q_D (N:Nat):Piece:=(wj 1345 p_D (g_D N N))
noncomputable def q_E (N:Nat):Piece:=(wj 65 p_E (g_E N))
noncomputable def q_F (N:Nat):Piece:=(wj 65 p_F (g_F N))
noncomputable def q_G (N:Nat):Piece:=(wj 85070591730234615865843651857942052929 p_G (g_G N))
noncomputable def q_H (N:Nat):Piece:=(wj 85070591730234615865843651857942052929 p_H (g_H N))
noncomputable def q_I (N:Nat):Piece:=(wj 85070591730234615865843651857942052929 p_I (g_I N))
noncomputable def i_J (N:Nat):Fi:={ loans:=1,owns:=true,results:=[.tmp 2],rtys:=[9],blks:=[(0,q_D N)],regs:=[(2,q_B N),(7,q_C N),(4,q_E N),(13,q_F N),(20,q_G N),(18,q_H N),(16,q_I N)],masks:=[(0,65)] }
noncomputable def b_J:Code:=match Tryz.f42.body with | some c=>c | none=>.skip
noncomputable def n_B:Code:=(.seq (wq b_J [1,1,0,0]) (wq b_J [1,1,0,1]))
noncomputable def n_C:Code:=(.seq (wq b_J [1,1,1,0,1,0,1,1,0,0]) (wq b_J [1,1,1,0,1,0,1,1,0,1]))
noncomputable def n_D:Code:=(.block 0 (.loop (wq b_J [1,1,1,0,1,0,1,1,1,1,0,0])))
noncomputable def n_E:Code:=(.seq (wq b_J [1,1,1,0,0]) (wq b_J [1,1,1,0,1]))
noncomputable def n_F:Code:=(.seq (wq b_J [1,1,1,1,0,0]) (wq b_J [1,1,1,1,0,1]))
noncomputable def n_G:Code:=(.seq (wq b_J [1,1,1,1,1,0,1,0,1,1,1,1,0]) (wq b_J [1,1,1,1,1,0,1,0,1,1,1,1,1]))
noncomputable def n_H:Code:=(.seq (wq b_J [1,1,1,1,1,0,1,0,1,1,0]) (wq b_J [1,1,1,1,1,0,1,0,1,1,1]))
noncomputable def n_I:Code:=(.seq (wq b_J [1,1,1,1,1,0,1,0,0]) (wq b_J [1,1,1,1,1,0,1,0,1]))
theorem e_B (v:p_B.V) (K:KO α):wcK env (ct11 N) (i_J N) 65 n_B (p_B.mk' v) K=g_B N v K:=Eq.trans (b:=z_B N @wby.b v K) (by kernel_rfl) (by unfold g_B; rw [wby.eq])
theorem o_B (N:Nat):wv gd P (i_J N) n_B (q_B N) :=
 wG hE hP (wl0 N) (wn.of (by kernel_rfl) .nil) (wn.of (by kernel_rfl) .nil) (e_B N)
theorem e_C (v:p_C.V) (K:KO α):wcK env (ct11 N) (i_J N) 321 n_C (p_C.mk' v) K=g_C N v K:=Eq.trans (b:=z_C N @wbx.b v K) (by kernel_rfl) (by unfold g_C; rw [wbx.eq])
theorem o_C (N:Nat):wv gd P (i_J N) n_C (q_C N) :=
 wG hE hP (wl0 N) (wn.of (by kernel_rfl) .nil) (wn.of (by kernel_rfl) .nil) (e_C N)
theorem e_D (n:Nat) (v:p_D.V) (K:KO α):wbe env (ct11 N) (i_J N) 1345 (wj 1345 p_D (g_D N n)).run n_D (p_D.mk' v) K=g_D N (n + 1) v K:=Eq.trans (b:=z_D (fun x0 x1 x2 x3 k0=>weB N (fun y0 y1 y2 y3=>wD N n y0 y1 y2 y3 k0) k0 x0 x1 x2 x3) v K) (by kernel_rfl) (by unfold g_D z_D; rw [wD.succ])
theorem o_D (N:Nat):wv gd P (i_J N) n_D (q_D N) :=
 wI hE hP (wl0 N) (wn.of (by kernel_rfl) .nil) (fun n {_}=>g_D N n) (fun _ _=>wD.zero ..) (fun n {_} v K=>e_D N n v K) N
theorem e_E (v:p_E.V) (K:KO α):wcK env (ct11 N) (i_J N) 65 n_E (p_E.mk' v) K=g_E N v K:=Eq.trans (b:=z_E N @wbv.b v K) (by kernel_rfl) (by unfold g_E; rw [wbv.eq])
theorem o_E (N:Nat):wv gd P (i_J N) n_E (q_E N) :=
 wG hE hP (wl0 N) (wn.of (by kernel_rfl) .nil) (wn.of (by kernel_rfl) (.cons (o_C N) (.cons (o_D N) .nil))) (e_E N)
theorem e_F (v:p_F.V) (K:KO α):wcK env (ct11 N) (i_J N) 65 n_F (p_F.mk' v) K=g_F N v K:=Eq.trans (b:=z_F N @wbj.b v K) (by kernel_rfl) (by unfold g_F; rw [wbj.eq])
theorem o_F (N:Nat):wv gd P (i_J N) n_F (q_F N) :=
 wG hE hP (wl0 N) (wn.of (by kernel_rfl) .nil) (wn.of (by kernel_rfl) .nil) (e_F N)
theorem e_G (v:p_G.V) (K:KO α):wcK env (ct11 N) (i_J N) 64 n_G (p_G.mk' v) K=g_G N v K:=Eq.trans (b:=z_G N @wbl.b v K) (by kernel_rfl) (by unfold g_G; rw [wbl.eq])
theorem o_G (N:Nat):wv gd P (i_J N) n_G (q_G N) :=
 wG hE hP (wl0 N) (wn.of (by kernel_rfl) .nil) (wn.of (by kernel_rfl) .nil) (e_G N)
theorem e_H (v:p_H.V) (K:KO α):wcK env (ct11 N) (i_J N) 64 n_H (p_H.mk' v) K=g_H N v K:=Eq.trans (b:=z_H N @wbz.b v K) (by kernel_rfl) (by unfold g_H; rw [wbz.eq])
theorem o_H (N:Nat):wv gd P (i_J N) n_H (q_H N) :=
 wG hE hP (wl0 N) (wn.of (by kernel_rfl) .nil) (wn.of (by kernel_rfl) (.cons (o_G N) .nil)) (e_H N)
theorem e_I (v:p_I.V) (K:KO α):wcK env (ct11 N) (i_J N) 64 n_I (p_I.mk' v) K=g_I N v K:=Eq.trans (b:=z_I N @wbh.b v K) (by kernel_rfl) (by unfold g_I; rw [wbh.eq])
theorem o_I (N:Nat):wv gd P (i_J N) n_I (q_I N) :=
 wG hE hP (wl0 N) (wn.of (by kernel_rfl) .nil) (wn.of (by kernel_rfl) (.cons (o_H N) .nil)) (e_I N)
noncomputable def p_J:Pt:=⟨[(.p 0 [] 0)],[(.box 90 (.i (.pair (.sl (.int .u8)) (.pair (.int .i64) .unit))) false)]⟩
noncomputable def z_J (F:type_of% @wcn) (v:p_J.V) (K:KF α):Option α:=F N v.2.1 (fun o0_0 o0_1=>K (.iv .str o0_0) [(.box 90 (.iv (.pair (.sl (.int .u8)) (.pair (.int .i64) .unit)) o0_1) false)])
noncomputable def g_J (v:p_J.V) (K:KF α):Option α:=z_J N @wcn v K
theorem e_J (v:p_J.V) (K:KF α):wbB env (ct11 N) (i_J N) Tryz.f42 (SP.mkL p_J.slots v.1) (BP.mkL p_J.store v.2) K=g_J N v K:=Eq.trans (b:=z_J N @wcn.b v K) (by kernel_rfl) (by unfold g_J; rw [wcn.eq])
theorem o_J (N:Nat):wk gd P 42 (wa false p_J (g_J N)) :=
 wh fun v K h=>wJ hE hP (wl0 N) Tryz.func42 (by kernel_rfl) (body:=b_J) (by kernel_rfl) (by kernel_rfl) (wn.of (by kernel_rfl) (.cons (o_B N) (.cons (o_E N) (.cons (o_F N) (.cons (o_I N) .nil))))) (loans:=BP.mkL p_J.store v.2) rfl ((e_J N v K).trans h)
noncomputable def ct12 (N:Nat):CT:=(42,(wa false p_J (g_J N)))::ct11 N
theorem wua (N:Nat):CTOK gd P (ct12 N):=.cons (o_J N) (wl0 N)

noncomputable def i_K (N:Nat):Fi:={ loans:=0,owns:=true,results:=[.tmp 2,.tmp 3],rtys:=[3,9],blks:=[],regs:=[],masks:=[] }
noncomputable def b_K:Code:=match Tryz.f16.body with | some c=>c | none=>.skip
noncomputable def p_K:Pt:=⟨[(.i (.sl (.int .u8)))],[]⟩
noncomputable def z_K (F:type_of% @wcT) (v:p_K.V) (K:KF α):Option α:=F N v.1.1 (fun o0_0 o0_1=>K (.tuple [(.iv (.int .i64) o0_0),(.iv .str o0_1)]) [])
noncomputable def g_K (v:p_K.V) (K:KF α):Option α:=z_K N @wcT v K
theorem e_K (v:p_K.V) (K:KF α):wbB env (ct12 N) (i_K N) Tryz.f16 (SP.mkL p_K.slots v.1) (BP.mkL p_K.store v.2) K=g_K N v K:=Eq.trans (b:=z_K N @wcT.b v K) (by kernel_rfl) (by unfold g_K; rw [wcT.eq])
theorem o_K (N:Nat):wk gd P 16 (wa false p_K (g_K N)) :=
 wh fun v K h=>wJ hE hP (wua N) Tryz.func16 (by kernel_rfl) (body:=b_K) (by kernel_rfl) (by kernel_rfl) (wn.of (by kernel_rfl) .nil) (loans:=BP.mkL p_K.store v.2) rfl ((e_K N v K).trans h)
noncomputable def ct13 (N:Nat):CT:=(16,(wa false p_K (g_K N)))::ct12 N
theorem wu3 (N:Nat):CTOK gd P (ct13 N):=.cons (o_K N) (wua N)

noncomputable def p_L:Pt:=⟨[.i .str,.i .str],[]⟩
noncomputable def g_L (N:Nat) {α:Type} (v:p_L.V) (K:HV→List Blk→Option α):Option α:=wE N v.1.1 v.1.2.1 (fun x=>K (.iv (.int .i64) x) [])
theorem o_L (N:Nat):wk gd P 121 (wa false p_L (g_L N)) :=
 wn3 (gd:=gd) lays219 (by kernel_rfl) Tryz.func121 (by kernel_rfl) (by kernel_rfl) N
noncomputable def ct14 (N:Nat):CT:=(121,(wa false p_L (g_L N)))::ct13 N
theorem wuz (N:Nat):CTOK gd P (ct14 N):=.cons (o_L N) (wu3 N)

noncomputable def i_M (N:Nat):Fi:={ loans:=0,owns:=true,results:=[.tmp 4,.tmp 5,.tmp 6],rtys:=[9,9,4],blks:=[],regs:=[],masks:=[] }
noncomputable def b_M:Code:=match Tryz.f69.body with | some c=>c | none=>.skip
noncomputable def p_M:Pt:=⟨[(.i .str),(.i .str)],[]⟩
noncomputable def z_M (F:type_of% @wbd) (v:p_M.V) (K:KF α):Option α:=F N v.1.1 v.1.2.1 (fun o0_0 o0_1 o0_2=>K (.tuple [(.iv .str o0_0),(.iv .str o0_1),(.iv .bool o0_2)]) [])
noncomputable def g_M (v:p_M.V) (K:KF α):Option α:=z_M N @wbd v K
theorem e_M (v:p_M.V) (K:KF α):wbB env (ct14 N) (i_M N) Tryz.f69 (SP.mkL p_M.slots v.1) (BP.mkL p_M.store v.2) K=g_M N v K:=Eq.trans (b:=z_M N @wbd.b v K) (by kernel_rfl) (by unfold g_M; rw [wbd.eq])
theorem o_M (N:Nat):wk gd P 69 (wa false p_M (g_M N)) :=
 wh fun v K h=>wJ hE hP (wuz N) Tryz.func69 (by kernel_rfl) (body:=b_M) (by kernel_rfl) (by kernel_rfl) (wn.of (by kernel_rfl) .nil) (loans:=BP.mkL p_M.store v.2) rfl ((e_M N v K).trans h)
noncomputable def ct15 (N:Nat):CT:=(69,(wa false p_M (g_M N)))::ct14 N
theorem wum (N:Nat):CTOK gd P (ct15 N):=.cons (o_M N) (wuz N)

noncomputable def i_N (N:Nat):Fi:={ loans:=0,owns:=true,results:=[.tmp 4,.tmp 5,.tmp 6],rtys:=[9,9,4],blks:=[],regs:=[],masks:=[] }
noncomputable def b_N:Code:=match Tryz.f32.body with | some c=>c | none=>.skip
noncomputable def p_N:Pt:=⟨[(.i .str),(.i .str)],[]⟩
noncomputable def z_N (F:type_of% @wek) (v:p_N.V) (K:KF α):Option α:=F N v.1.1 v.1.2.1 (fun o0_0 o0_1 o0_2=>K (.tuple [(.iv .str o0_0),(.iv .str o0_1),(.iv .bool o0_2)]) [])
noncomputable def g_N (v:p_N.V) (K:KF α):Option α:=z_N N @wek v K
theorem e_N (v:p_N.V) (K:KF α):wbB env (ct15 N) (i_N N) Tryz.f32 (SP.mkL p_N.slots v.1) (BP.mkL p_N.store v.2) K=g_N N v K:=Eq.trans (b:=z_N N @wek.b v K) (by kernel_rfl) (by unfold g_N; rw [wek.eq])
theorem o_N (N:Nat):wk gd P 32 (wa false p_N (g_N N)) :=
 wh fun v K h=>wJ hE hP (wum N) Tryz.func32 (by kernel_rfl) (body:=b_N) (by kernel_rfl) (by kernel_rfl) (wn.of (by kernel_rfl) .nil) (loans:=BP.mkL p_N.store v.2) rfl ((e_N N v K).trans h)
noncomputable def ct16 (N:Nat):CT:=(32,(wa false p_N (g_N N)))::ct15 N
theorem wsX (N:Nat):CTOK gd P (ct16 N):=.cons (o_N N) (wum N)

noncomputable def p_O:Pt:=⟨(.i .str)::ups 4 ((.i (.int .i64))::(.i (.int .i64))::ups 15 ([])),[]⟩
noncomputable def z_O (F:type_of% (@wZ α 0 0)) (v:p_O.V) (K:KO α):Option α:=F v.1.1 (nx 4 v.1.2).1 (nx 4 v.1.2).2.1 (fun o0_0=>K (.ret (.iv .bool o0_0) [])) (fun o1_0=>K (.normal ⟨(.iv .str o1_0)::us 21 ([]),[]⟩))
noncomputable def g_O (n:Nat) (v:p_O.V) (K:KO α):Option α:=z_O (wZ N n) v K
noncomputable def q_O (N:Nat):Piece:=(wj 5121 p_O (g_O N N))
noncomputable def i_P (N:Nat):Fi:={ loans:=0,owns:=true,results:=[.tmp 2],rtys:=[4],blks:=[(0,q_O N)],regs:=[],masks:=[(0,1)] }
noncomputable def b_P:Code:=match Tryz.f70.body with | some c=>c | none=>.skip
noncomputable def n_O:Code:=(.block 0 (.loop (wq b_P [1,0,1,0,0])))
theorem e_O (n:Nat) (v:p_O.V) (K:KO α):wbe env (ct16 N) (i_P N) 5121 (wj 5121 p_O (g_O N n)).run n_O (p_O.mk' v) K=g_O N (n + 1) v K:=Eq.trans (b:=z_O (fun x0 x1 x2 k0 k1=>wfr N (fun y0 y1 y2=>wZ N n y0 y1 y2 k0 k1) k0 k1 x0 x1 x2) v K) (by kernel_rfl) (by unfold g_O z_O; rw [wZ.succ])
theorem o_O (N:Nat):wv gd P (i_P N) n_O (q_O N) :=
 wI hE hP (wsX N) (wn.of (by kernel_rfl) .nil) (fun n {_}=>g_O N n) (fun _ _=>wZ.zero ..) (fun n {_} v K=>e_O N n v K) N
noncomputable def p_P:Pt:=⟨[(.i .str)],[]⟩
noncomputable def z_P (F:type_of% @wdA) (v:p_P.V) (K:KF α):Option α:=F N v.1.1 (fun o0_0=>K (.iv .bool o0_0) [])
noncomputable def g_P (v:p_P.V) (K:KF α):Option α:=z_P N @wdA v K
theorem e_P (v:p_P.V) (K:KF α):wbB env (ct16 N) (i_P N) Tryz.f70 (SP.mkL p_P.slots v.1) (BP.mkL p_P.store v.2) K=g_P N v K:=Eq.trans (b:=z_P N @wdA.b v K) (by kernel_rfl) (by unfold g_P; rw [wdA.eq])
theorem o_P (N:Nat):wk gd P 70 (wa false p_P (g_P N)) :=
 wh fun v K h=>wJ hE hP (wsX N) Tryz.func70 (by kernel_rfl) (body:=b_P) (by kernel_rfl) (by kernel_rfl) (wn.of (by kernel_rfl) (.cons (o_O N) .nil)) (loans:=BP.mkL p_P.store v.2) rfl ((e_P N v K).trans h)
noncomputable def ct17 (N:Nat):CT:=(70,(wa false p_P (g_P N)))::ct16 N
theorem wuH (N:Nat):CTOK gd P (ct17 N):=.cons (o_P N) (wsX N)

noncomputable def i_Q (N:Nat):Fi:={ loans:=0,owns:=true,results:=[.tmp 2],rtys:=[4],blks:=[],regs:=[],masks:=[] }
noncomputable def b_Q:Code:=match Tryz.f124.body with | some c=>c | none=>.skip
noncomputable def p_Q:Pt:=⟨[(.i .str)],[]⟩
noncomputable def z_Q (F:type_of% @wbR) (v:p_Q.V) (K:KF α):Option α:=F N v.1.1 (fun o0_0=>K (.iv .bool o0_0) [])
noncomputable def g_Q (v:p_Q.V) (K:KF α):Option α:=z_Q N @wbR v K
theorem e_Q (v:p_Q.V) (K:KF α):wbB env (ct17 N) (i_Q N) Tryz.f124 (SP.mkL p_Q.slots v.1) (BP.mkL p_Q.store v.2) K=g_Q N v K:=Eq.trans (b:=z_Q N @wbR.b v K) (by kernel_rfl) (by unfold g_Q; rw [wbR.eq])
theorem o_Q (N:Nat):wk gd P 124 (wa false p_Q (g_Q N)) :=
 wh fun v K h=>wJ hE hP (wuH N) Tryz.func124 (by kernel_rfl) (body:=b_Q) (by kernel_rfl) (by kernel_rfl) (wn.of (by kernel_rfl) .nil) (loans:=BP.mkL p_Q.store v.2) rfl ((e_Q N v K).trans h)
noncomputable def ct18 (N:Nat):CT:=(124,(wa false p_Q (g_Q N)))::ct17 N
theorem wt4 (N:Nat):CTOK gd P (ct18 N):=.cons (o_Q N) (wuH N)

noncomputable def i_R (N:Nat):Fi:={ loans:=0,owns:=true,results:=[.tmp 4],rtys:=[4],blks:=[],regs:=[],masks:=[] }
noncomputable def b_R:Code:=match Tryz.f120.body with | some c=>c | none=>.skip
noncomputable def p_R:Pt:=⟨[(.i .str),(.i .str)],[]⟩
noncomputable def z_R (F:type_of% @wM) (v:p_R.V) (K:KF α):Option α:=F N v.1.1 v.1.2.1 (fun o0_0=>K (.iv .bool o0_0) [])
noncomputable def g_R (v:p_R.V) (K:KF α):Option α:=z_R N @wM v K
theorem e_R (v:p_R.V) (K:KF α):wbB env (ct18 N) (i_R N) Tryz.f120 (SP.mkL p_R.slots v.1) (BP.mkL p_R.store v.2) K=g_R N v K:=Eq.trans (b:=z_R N @wM.b v K) (by kernel_rfl) (by unfold g_R; rw [wM.eq])
theorem o_R (N:Nat):wk gd P 120 (wa false p_R (g_R N)) :=
 wh fun v K h=>wJ hE hP (wt4 N) Tryz.func120 (by kernel_rfl) (body:=b_R) (by kernel_rfl) (by kernel_rfl) (wn.of (by kernel_rfl) .nil) (loans:=BP.mkL p_R.store v.2) rfl ((e_R N v K).trans h)
noncomputable def ct19 (N:Nat):CT:=(120,(wa false p_R (g_R N)))::ct18 N
theorem wuq (N:Nat):CTOK gd P (ct19 N):=.cons (o_R N) (wt4 N)

noncomputable def i_S (N:Nat):Fi:={ loans:=0,owns:=true,results:=[.tmp 4,.tmp 5],rtys:=[9,4],blks:=[],regs:=[],masks:=[] }
noncomputable def b_S:Code:=match Tryz.f68.body with | some c=>c | none=>.skip
noncomputable def p_S:Pt:=⟨[(.i .str),(.i .str)],[]⟩
noncomputable def z_S (F:type_of% @wK) (v:p_S.V) (K:KF α):Option α:=F N v.1.1 v.1.2.1 (fun o0_0 o0_1=>K (.tuple [(.iv .str o0_0),(.iv .bool o0_1)]) [])
noncomputable def g_S (v:p_S.V) (K:KF α):Option α:=z_S N @wK v K
theorem e_S (v:p_S.V) (K:KF α):wbB env (ct19 N) (i_S N) Tryz.f68 (SP.mkL p_S.slots v.1) (BP.mkL p_S.store v.2) K=g_S N v K:=Eq.trans (b:=z_S N @wK.b v K) (by kernel_rfl) (by unfold g_S; rw [wK.eq])
theorem o_S (N:Nat):wk gd P 68 (wa false p_S (g_S N)) :=
 wh fun v K h=>wJ hE hP (wuq N) Tryz.func68 (by kernel_rfl) (body:=b_S) (by kernel_rfl) (by kernel_rfl) (wn.of (by kernel_rfl) .nil) (loans:=BP.mkL p_S.store v.2) rfl ((e_S N v K).trans h)
noncomputable def ct20 (N:Nat):CT:=(68,(wa false p_S (g_S N)))::ct19 N
theorem wuB (N:Nat):CTOK gd P (ct20 N):=.cons (o_S N) (wuq N)

noncomputable def i_T (N:Nat):Fi:={ loans:=0,owns:=true,results:=[.tmp 4,.tmp 5],rtys:=[9,4],blks:=[],regs:=[],masks:=[] }
noncomputable def b_T:Code:=match Tryz.f31.body with | some c=>c | none=>.skip
noncomputable def p_T:Pt:=⟨[(.i .str),(.i .str)],[]⟩
noncomputable def z_T (F:type_of% @wb3) (v:p_T.V) (K:KF α):Option α:=F N v.1.1 v.1.2.1 (fun o0_0 o0_1=>K (.tuple [(.iv .str o0_0),(.iv .bool o0_1)]) [])
noncomputable def g_T (v:p_T.V) (K:KF α):Option α:=z_T N @wb3 v K
theorem e_T (v:p_T.V) (K:KF α):wbB env (ct20 N) (i_T N) Tryz.f31 (SP.mkL p_T.slots v.1) (BP.mkL p_T.store v.2) K=g_T N v K:=Eq.trans (b:=z_T N @wb3.b v K) (by kernel_rfl) (by unfold g_T; rw [wb3.eq])
theorem o_T (N:Nat):wk gd P 31 (wa false p_T (g_T N)) :=
 wh fun v K h=>wJ hE hP (wuB N) Tryz.func31 (by kernel_rfl) (body:=b_T) (by kernel_rfl) (by kernel_rfl) (wn.of (by kernel_rfl) .nil) (loans:=BP.mkL p_T.store v.2) rfl ((e_T N v K).trans h)
noncomputable def ct21 (N:Nat):CT:=(31,(wa false p_T (g_T N)))::ct20 N
theorem wvc (N:Nat):CTOK gd P (ct21 N):=.cons (o_T N) (wuB N)

noncomputable def p_U:Pt:=⟨[.i .str],[]⟩
noncomputable def g_U (N:Nat) {α:Type} (v:p_U.V) (K:HV→List Blk→Option α):Option α:=wcX N v.1.1 (fun x=>K (.tuple [.iv (.int .i64) x,.er false]) []) (fun x=>K (.tuple [.iv (.int .i64) x,.er true]) [])
theorem o_U (N:Nat):wk gd P 125 (wa false p_U (g_U N)) :=
 wot (gd:=gd) lays172 (by kernel_rfl) Tryz.func125 (by kernel_rfl) (by kernel_rfl) (g1:=3) (g2:=4) (by kernel_rfl) (by kernel_rfl) (fun w h=>wns (.head _) h) (fun w h=>wns (.tail _ (.head _)) h) N
noncomputable def ct22 (N:Nat):CT:=(125,(wa false p_U (g_U N)))::ct21 N
theorem ws4 (N:Nat):CTOK gd P (ct22 N):=.cons (o_U N) (wvc N)

noncomputable def p_V:Pt:=⟨ups 9 ((.i .str)::(.i .str)::.u::.u::(.i .bool)::(.i (.int .i64))::ups 67 ([])),[]⟩
noncomputable def z_V (F:type_of% @wbc) (v:p_V.V) (K:KO α):Option α:=F N (nx 9 v.1).1 (nx 9 v.1).2.1 (nx 9 v.1).2.2.2.2.1 (nx 9 v.1).2.2.2.2.2.1 (fun o0_0 o0_1 o0_2=>K (.normal ⟨us 9 ((.iv .str o0_0)::(.iv .str o0_1)::U::U::U::(.iv (.int .i64) o0_2)::us 67 ([])),[]⟩))
noncomputable def g_V (v:p_V.V) (K:KO α):Option α:=z_V N @wbc v K
noncomputable def q_V (N:Nat):Piece:=(wj 336855040 p_V (g_V N))
noncomputable def i_W (N:Nat):Fi:={ loans:=0,owns:=true,results:=[.tmp 2,.tmp 3,.tmp 4,.tmp 5],rtys:=[9,9,3,4],blks:=[],regs:=[(11,q_V N)],masks:=[] }
noncomputable def b_W:Code:=match Tryz.f79.body with | some c=>c | none=>.skip
noncomputable def n_V:Code:=(.seq (wq b_W [1,1,1,1,1,1,1,1,0,0]) (wq b_W [1,1,1,1,1,1,1,1,0,1]))
theorem e_V (v:p_V.V) (K:KO α):wcK env (ct22 N) (i_W N) 269746176 n_V (p_V.mk' v) K=g_V N v K:=Eq.trans (b:=z_V N @wbc.b v K) (by kernel_rfl) (by unfold g_V; rw [wbc.eq])
theorem o_V (N:Nat):wv gd P (i_W N) n_V (q_V N) :=
 wG hE hP (ws4 N) (wn.of (by kernel_rfl) .nil) (wn.of (by kernel_rfl) .nil) (e_V N)
noncomputable def p_W:Pt:=⟨[(.i .str)],[]⟩
noncomputable def z_W (F:type_of% @wdZ) (v:p_W.V) (K:KF α):Option α:=F N v.1.1 (fun o0_0 o0_1 o0_2 o0_3=>K (.tuple [(.iv .str o0_0),(.iv .str o0_1),(.iv (.int .i64) o0_2),(.iv .bool o0_3)]) [])
noncomputable def g_W (v:p_W.V) (K:KF α):Option α:=z_W N @wdZ v K
theorem e_W (v:p_W.V) (K:KF α):wbB env (ct22 N) (i_W N) Tryz.f79 (SP.mkL p_W.slots v.1) (BP.mkL p_W.store v.2) K=g_W N v K:=Eq.trans (b:=z_W N @wdZ.b v K) (by kernel_rfl) (by unfold g_W; rw [wdZ.eq])
theorem o_W (N:Nat):wk gd P 79 (wa false p_W (g_W N)) :=
 wh fun v K h=>wJ hE hP (ws4 N) Tryz.func79 (by kernel_rfl) (body:=b_W) (by kernel_rfl) (by kernel_rfl) (wn.of (by kernel_rfl) (.cons (o_V N) .nil)) (loans:=BP.mkL p_W.store v.2) rfl ((e_W N v K).trans h)
noncomputable def ct23 (N:Nat):CT:=(79,(wa false p_W (g_W N)))::ct22 N
theorem wtP (N:Nat):CTOK gd P (ct23 N):=.cons (o_W N) (ws4 N)

noncomputable def i_X (N:Nat):Fi:={ loans:=0,owns:=true,results:=[.tmp 2],rtys:=[4],blks:=[],regs:=[],masks:=[] }
noncomputable def b_X:Code:=match Tryz.f78.body with | some c=>c | none=>.skip
noncomputable def p_X:Pt:=⟨[(.i .str)],[]⟩
noncomputable def z_X (F:type_of% @we9) (v:p_X.V) (K:KF α):Option α:=F N v.1.1 (fun o0_0=>K (.iv .bool o0_0) [])
noncomputable def g_X (v:p_X.V) (K:KF α):Option α:=z_X N @we9 v K
theorem e_X (v:p_X.V) (K:KF α):wbB env (ct23 N) (i_X N) Tryz.f78 (SP.mkL p_X.slots v.1) (BP.mkL p_X.store v.2) K=g_X N v K:=Eq.trans (b:=z_X N @we9.b v K) (by kernel_rfl) (by unfold g_X; rw [we9.eq])
theorem o_X (N:Nat):wk gd P 78 (wa false p_X (g_X N)) :=
 wh fun v K h=>wJ hE hP (wtP N) Tryz.func78 (by kernel_rfl) (body:=b_X) (by kernel_rfl) (by kernel_rfl) (wn.of (by kernel_rfl) .nil) (loans:=BP.mkL p_X.store v.2) rfl ((e_X N v K).trans h)
noncomputable def ct24 (N:Nat):CT:=(78,(wa false p_X (g_X N)))::ct23 N
theorem wtm (N:Nat):CTOK gd P (ct24 N):=.cons (o_X N) (wtP N)

noncomputable def p_Y:Pt:=⟨(.i (.sl (.int .i64)))::ups 20 ([]),[]⟩
noncomputable def z_Y (F:type_of% (@wcC α 0 0)) (v:p_Y.V) (K:KO α):Option α:=F v.1.1 (fun o0_0=>K (.normal ⟨(.iv (.sl (.int .i64)) o0_0)::us 20 ([]),[]⟩))
noncomputable def g_Y (n:Nat) (v:p_Y.V) (K:KO α):Option α:=z_Y (wcC N n) v K
noncomputable def q_Y (N:Nat):Piece:=(wj 1 p_Y (g_Y N N))
noncomputable def i_Z (N:Nat):Fi:={ loans:=0,owns:=true,results:=[.tmp 2],rtys:=[23],blks:=[(0,q_Y N)],regs:=[],masks:=[(0,1)] }
noncomputable def b_Z:Code:=match Tryz.f105.body with | some c=>c | none=>.skip
noncomputable def n_Y:Code:=(.block 0 (.loop (wq b_Z [1,0,0,0])))
theorem e_Y (n:Nat) (v:p_Y.V) (K:KO α):wbe env (ct24 N) (i_Z N) 1 (wj 1 p_Y (g_Y N n)).run n_Y (p_Y.mk' v) K=g_Y N (n + 1) v K:=Eq.trans (b:=z_Y (fun x0 k0=>wgO N (fun y0=>wcC N n y0 k0) k0 x0) v K) (by kernel_rfl) (by unfold g_Y z_Y; rw [wcC.succ])
theorem o_Y (N:Nat):wv gd P (i_Z N) n_Y (q_Y N) :=
 wI hE hP (wtm N) (wn.of (by kernel_rfl) .nil) (fun n {_}=>g_Y N n) (fun _ _=>wcC.zero ..) (fun n {_} v K=>e_Y N n v K) N
noncomputable def p_Z:Pt:=⟨[(.i (.sl (.int .i64)))],[]⟩
noncomputable def z_Z (F:type_of% @wdk) (v:p_Z.V) (K:KF α):Option α:=F N v.1.1 (fun o0_0=>K (.iv (.sl (.int .i64)) o0_0) [])
noncomputable def g_Z (v:p_Z.V) (K:KF α):Option α:=z_Z N @wdk v K
theorem e_Z (v:p_Z.V) (K:KF α):wbB env (ct24 N) (i_Z N) Tryz.f105 (SP.mkL p_Z.slots v.1) (BP.mkL p_Z.store v.2) K=g_Z N v K:=Eq.trans (b:=z_Z N @wdk.b v K) (by kernel_rfl) (by unfold g_Z; rw [wdk.eq])
theorem o_Z (N:Nat):wk gd P 105 (wa false p_Z (g_Z N)) :=
 wh fun v K h=>wJ hE hP (wtm N) Tryz.func105 (by kernel_rfl) (body:=b_Z) (by kernel_rfl) (by kernel_rfl) (wn.of (by kernel_rfl) (.cons (o_Y N) .nil)) (loans:=BP.mkL p_Z.store v.2) rfl ((e_Z N v K).trans h)
noncomputable def ct25 (N:Nat):CT:=(105,(wa false p_Z (g_Z N)))::ct24 N
theorem wrz (N:Nat):CTOK gd P (ct25 N):=.cons (o_Z N) (wtm N)

noncomputable def p_0:Pt:=⟨.u::(.i (.sl (.int .i64)))::.u::.u::.u::(.o 0)::(.i (.int .i64))::(.i (.int .i64))::(.i (.int .i64))::ups 10 ((.i (.sl (.int .i64)))::(.i (.int .i64))::(.i (.int .i64))::ups 4 ((.i (.sl (.int .i64)))::(.i (.int .i64))::(.i (.int .i64))::ups 39 ([]))),[(.arr 3 (.int .i64) false)]⟩
noncomputable def z_0 (F:type_of% (@wbC α 0 0)) (v:p_0.V) (K:KO α):Option α:=F v.1.2.1 v.1.2.2.2.2.2.2.1 v.1.2.2.2.2.2.2.2.1 v.1.2.2.2.2.2.2.2.2.1 (nx 10 v.1.2.2.2.2.2.2.2.2.2).1 (nx 10 v.1.2.2.2.2.2.2.2.2.2).2.1 (nx 10 v.1.2.2.2.2.2.2.2.2.2).2.2.1 (nx 4 (nx 10 v.1.2.2.2.2.2.2.2.2.2).2.2.2).1 (nx 4 (nx 10 v.1.2.2.2.2.2.2.2.2.2).2.2.2).2.1 (nx 4 (nx 10 v.1.2.2.2.2.2.2.2.2.2).2.2.2).2.2.1 v.2.1 (fun o0_0 o0_1 o0_2 o0_3 o0_4 o0_5 o0_6=>K (.normal ⟨U::(.iv (.sl (.int .i64)) o0_0)::U::U::U::(.own 0)::(.iv (.int .i64) o0_1)::U::(.iv (.int .i64) o0_2)::us 10 ((.iv (.sl (.int .i64)) o0_3)::(.iv (.int .i64) o0_4)::(.iv (.int .i64) o0_5)::us 46 ([])),[(.arr 3 (.int .i64) o0_6 false)]⟩))
noncomputable def g_0 (n:Nat) (v:p_0.V) (K:KO α):Option α:=z_0 (wbC N n) v K
noncomputable def p_1:Pt:=⟨.u::(.i (.sl (.int .i64)))::.u::.u::.u::(.o 0)::ups 13 ((.i (.sl (.int .i64)))::(.i (.int .i64))::(.i (.int .i64))::ups 46 ([])),[(.arr 3 (.int .i64) false)]⟩
noncomputable def z_1 (F:type_of% (@wbM α 0 0)) (v:p_1.V) (K:KO α):Option α:=F v.1.2.1 (nx 13 v.1.2.2.2.2.2.2).1 (nx 13 v.1.2.2.2.2.2.2).2.1 (nx 13 v.1.2.2.2.2.2.2).2.2.1 v.2.1 (fun o0_0=>K (.normal ⟨us 5 ((.own 0)::us 62 ([])),[(.arr 3 (.int .i64) o0_0 false)]⟩))
noncomputable def g_1 (n:Nat) (v:p_1.V) (K:KO α):Option α:=z_1 (wbM N n) v K
noncomputable def q_0 (N:Nat):Piece:=(wj 94581364610913284 p_0 (g_0 N N))
noncomputable def q_1 (N:Nat):Piece:=(wj 5772436046852 p_1 (g_1 N N))
noncomputable def i_2 (N:Nat):Fi:={ loans:=0,owns:=true,results:=[.tmp 4],rtys:=[23],blks:=[(2,q_0 N),(0,q_1 N)],regs:=[],masks:=[(0,1024),(2,5772436116484)] }
noncomputable def b_2:Code:=match Tryz.f82.body with | some c=>c | none=>.skip
noncomputable def n_0:Code:=(.block 2 (.loop (wq b_2 [1,1,0,1,0,0,1,1,0,0,1,1,0,1,0,0])))
noncomputable def n_1:Code:=(.block 0 (.loop (wq b_2 [1,1,0,1,0,0])))
theorem e_0 (n:Nat) (v:p_0.V) (K:KO α):wbe env (ct25 N) (i_2 N) 94581364610913284 (wj 94581364610913284 p_0 (g_0 N n)).run n_0 (p_0.mk' v) K=g_0 N (n + 1) v K:=Eq.trans (b:=z_0 (fun x0 x1 x2 x3 x4 x5 x6 x7 x8 x9 x10 k0=>wfW N (fun y0 y1 y2 y3 y4 y5 y6 y7 y8 y9 y10=>wbC N n y0 y1 y2 y3 y4 y5 y6 y7 y8 y9 y10 k0) k0 x0 x1 x2 x3 x4 x5 x6 x7 x8 x9 x10) v K) (by kernel_rfl) (by unfold g_0 z_0; rw [wbC.succ])
theorem o_0 (N:Nat):wv gd P (i_2 N) n_0 (q_0 N) :=
 wI hE hP (wrz N) (wn.of (by kernel_rfl) .nil) (fun n {_}=>g_0 N n) (fun _ _=>wbC.zero ..) (fun n {_} v K=>e_0 N n v K) N
theorem e_1 (n:Nat) (v:p_1.V) (K:KO α):wbe env (ct25 N) (i_2 N) 5772436046852 (wj 5772436046852 p_1 (g_1 N n)).run n_1 (p_1.mk' v) K=g_1 N (n + 1) v K:=Eq.trans (b:=z_1 (fun x0 x1 x2 x3 x4 k0=>wfX N (fun y0 y1 y2 y3 y4=>wbM N n y0 y1 y2 y3 y4 k0) k0 x0 x1 x2 x3 x4) v K) (by kernel_rfl) (by unfold g_1 z_1; rw [wbM.succ])
theorem o_1 (N:Nat):wv gd P (i_2 N) n_1 (q_1 N) :=
 wI hE hP (wrz N) (wn.of (by kernel_rfl) (.cons (o_0 N) .nil)) (fun n {_}=>g_1 N n) (fun _ _=>wbM.zero ..) (fun n {_} v K=>e_1 N n v K) N
noncomputable def p_2:Pt:=⟨[(.i (.sl (.int .i64))),(.i (.sl (.int .i64)))],[]⟩
noncomputable def z_2 (F:type_of% @wdF) (v:p_2.V) (K:KF α):Option α:=F N v.1.1 v.1.2.1 (fun o0_0=>K (.iv (.sl (.int .i64)) o0_0) [])
noncomputable def g_2 (v:p_2.V) (K:KF α):Option α:=z_2 N @wdF v K
theorem e_2 (v:p_2.V) (K:KF α):wbB env (ct25 N) (i_2 N) Tryz.f82 (SP.mkL p_2.slots v.1) (BP.mkL p_2.store v.2) K=g_2 N v K:=Eq.trans (b:=z_2 N @wdF.b v K) (by kernel_rfl) (by unfold g_2; rw [wdF.eq])
theorem o_2 (N:Nat):wk gd P 82 (wa false p_2 (g_2 N)) :=
 wh fun v K h=>wJ hE hP (wrz N) Tryz.func82 (by kernel_rfl) (body:=b_2) (by kernel_rfl) (by kernel_rfl) (wn.of (by kernel_rfl) (.cons (o_1 N) .nil)) (loans:=BP.mkL p_2.store v.2) rfl ((e_2 N v K).trans h)
noncomputable def ct26 (N:Nat):CT:=(82,(wa false p_2 (g_2 N)))::ct25 N
theorem wti (N:Nat):CTOK gd P (ct26 N):=.cons (o_2 N) (wrz N)

noncomputable def p_3:Pt:=⟨(.i (.int .u64))::.u::.u::(.o 0)::ups 11 ([]),[(.arr 3 (.int .i64) false)]⟩
noncomputable def z_3 (F:type_of% (@wcm α 0 0)) (v:p_3.V) (K:KO α):Option α:=F v.1.1 v.2.1 (fun o0_0=>K (.normal ⟨U::U::U::(.own 0)::us 11 ([]),[(.arr 3 (.int .i64) o0_0 false)]⟩))
noncomputable def g_3 (n:Nat) (v:p_3.V) (K:KO α):Option α:=z_3 (wcm N n) v K
noncomputable def q_3 (N:Nat):Piece:=(wj 65 p_3 (g_3 N N))
noncomputable def i_4 (N:Nat):Fi:={ loans:=0,owns:=true,results:=[.tmp 2],rtys:=[23],blks:=[(0,q_3 N)],regs:=[],masks:=[(0,64)] }
noncomputable def b_4:Code:=match Tryz.f91.body with | some c=>c | none=>.skip
noncomputable def n_3:Code:=(.block 0 (.loop (wq b_4 [1,1,0,0,0])))
theorem e_3 (n:Nat) (v:p_3.V) (K:KO α):wbe env (ct26 N) (i_4 N) 65 (wj 65 p_3 (g_3 N n)).run n_3 (p_3.mk' v) K=g_3 N (n + 1) v K:=Eq.trans (b:=z_3 (fun x0 x1 k0=>wgZ N (fun y0 y1=>wcm N n y0 y1 k0) k0 x0 x1) v K) (by kernel_rfl) (by unfold g_3 z_3; rw [wcm.succ])
theorem o_3 (N:Nat):wv gd P (i_4 N) n_3 (q_3 N) :=
 wI hE hP (wti N) (wn.of (by kernel_rfl) .nil) (fun n {_}=>g_3 N n) (fun _ _=>wcm.zero ..) (fun n {_} v K=>e_3 N n v K) N
noncomputable def p_4:Pt:=⟨[(.i (.int .u64))],[]⟩
noncomputable def z_4 (F:type_of% @weY) (v:p_4.V) (K:KF α):Option α:=F N v.1.1 (fun o0_0=>K (.own 0) [(.arr 3 (.int .i64) o0_0 false)])
noncomputable def g_4 (v:p_4.V) (K:KF α):Option α:=z_4 N @weY v K
theorem e_4 (v:p_4.V) (K:KF α):wbB env (ct26 N) (i_4 N) Tryz.f91 (SP.mkL p_4.slots v.1) (BP.mkL p_4.store v.2) K=g_4 N v K:=Eq.trans (b:=z_4 N @weY.b v K) (by kernel_rfl) (by unfold g_4; rw [weY.eq])
theorem o_4 (N:Nat):wk gd P 91 (wa false p_4 (g_4 N)) :=
 wh fun v K h=>wJ hE hP (wti N) Tryz.func91 (by kernel_rfl) (body:=b_4) (by kernel_rfl) (by kernel_rfl) (wn.of (by kernel_rfl) (.cons (o_3 N) .nil)) (loans:=BP.mkL p_4.store v.2) rfl ((e_4 N v K).trans h)
noncomputable def ct27 (N:Nat):CT:=(91,(wa false p_4 (g_4 N)))::ct26 N
theorem wrX (N:Nat):CTOK gd P (ct27 N):=.cons (o_4 N) (wti N)

noncomputable def p_5:Pt:=⟨ups 5 ((.o 0)::ups 13 ((.i (.sl (.int .i64)))::(.i (.int .i64))::(.i (.int .i64))::ups 39 ([]))),[(.arr 3 (.int .i64) false)]⟩
noncomputable def z_5 (F:type_of% (@wbE α 0 0)) (v:p_5.V) (K:KO α):Option α:=F (nx 13 (nx 5 v.1).2).1 (nx 13 (nx 5 v.1).2).2.1 (nx 13 (nx 5 v.1).2).2.2.1 v.2.1 (fun o0_0=>K (.normal ⟨us 5 ((.own 0)::us 55 ([])),[(.arr 3 (.int .i64) o0_0 false)]⟩))
noncomputable def g_5 (n:Nat) (v:p_5.V) (K:KO α):Option α:=z_5 (wbE N n) v K
noncomputable def p_6:Pt:=⟨ups 5 ((.o 0)::ups 30 ((.i (.int .i64))::(.i (.int .i64))::ups 23 ([]))),[(.arr 3 (.int .i64) false)]⟩
noncomputable def z_6 (F:type_of% (@wbG α 0 0)) (v:p_6.V) (K:KO α):Option α:=F (nx 30 (nx 5 v.1).2).1 (nx 30 (nx 5 v.1).2).2.1 v.2.1 (fun o0_0=>K (.normal ⟨us 5 ((.own 0)::us 55 ([])),[(.arr 3 (.int .i64) o0_0 false)]⟩))
noncomputable def g_6 (n:Nat) (v:p_6.V) (K:KO α):Option α:=z_6 (wbG N n) v K
noncomputable def q_5 (N:Nat):Piece:=(wj 5772436046848 p_5 (g_5 N N))
noncomputable def q_6 (N:Nat):Piece:=(wj 23611832414348226069504 p_6 (g_6 N N))
noncomputable def i_7 (N:Nat):Fi:={ loans:=0,owns:=true,results:=[.tmp 4],rtys:=[23],blks:=[(0,q_5 N),(2,q_6 N)],regs:=[],masks:=[(0,1024),(2,1024)] }
noncomputable def b_7:Code:=match Tryz.f123.body with | some c=>c | none=>.skip
noncomputable def n_5:Code:=(.block 0 (.loop (wq b_7 [1,1,1,0,1,0,0])))
noncomputable def n_6:Code:=(.block 2 (.loop (wq b_7 [1,1,1,1,0,1,0,0])))
theorem e_5 (n:Nat) (v:p_5.V) (K:KO α):wbe env (ct27 N) (i_7 N) 5772436046848 (wj 5772436046848 p_5 (g_5 N n)).run n_5 (p_5.mk' v) K=g_5 N (n + 1) v K:=Eq.trans (b:=z_5 (fun x0 x1 x2 x3 k0=>wfV N (fun y0 y1 y2 y3=>wbE N n y0 y1 y2 y3 k0) k0 x0 x1 x2 x3) v K) (by kernel_rfl) (by unfold g_5 z_5; rw [wbE.succ])
theorem o_5 (N:Nat):wv gd P (i_7 N) n_5 (q_5 N) :=
 wI hE hP (wrX N) (wn.of (by kernel_rfl) .nil) (fun n {_}=>g_5 N n) (fun _ _=>wbE.zero ..) (fun n {_} v K=>e_5 N n v K) N
theorem e_6 (n:Nat) (v:p_6.V) (K:KO α):wbe env (ct27 N) (i_7 N) 23611832414348226069504 (wj 23611832414348226069504 p_6 (g_6 N n)).run n_6 (p_6.mk' v) K=g_6 N (n + 1) v K:=Eq.trans (b:=z_6 (fun x0 x1 x2 k0=>wf1 N (fun y0 y1 y2=>wbG N n y0 y1 y2 k0) k0 x0 x1 x2) v K) (by kernel_rfl) (by unfold g_6 z_6; rw [wbG.succ])
theorem o_6 (N:Nat):wv gd P (i_7 N) n_6 (q_6 N) :=
 wI hE hP (wrX N) (wn.of (by kernel_rfl) .nil) (fun n {_}=>g_6 N n) (fun _ _=>wbG.zero ..) (fun n {_} v K=>e_6 N n v K) N
noncomputable def p_7:Pt:=⟨[(.i (.sl (.int .i64))),(.i (.sl (.int .i64)))],[]⟩
noncomputable def z_7 (F:type_of% @weG) (v:p_7.V) (K:KF α):Option α:=F N v.1.1 v.1.2.1 (fun o0_0=>K (.iv (.sl (.int .i64)) o0_0) [])
noncomputable def g_7 (v:p_7.V) (K:KF α):Option α:=z_7 N @weG v K
theorem e_7 (v:p_7.V) (K:KF α):wbB env (ct27 N) (i_7 N) Tryz.f123 (SP.mkL p_7.slots v.1) (BP.mkL p_7.store v.2) K=g_7 N v K:=Eq.trans (b:=z_7 N @weG.b v K) (by kernel_rfl) (by unfold g_7; rw [weG.eq])
theorem o_7 (N:Nat):wk gd P 123 (wa false p_7 (g_7 N)) :=
 wh fun v K h=>wJ hE hP (wrX N) Tryz.func123 (by kernel_rfl) (body:=b_7) (by kernel_rfl) (by kernel_rfl) (wn.of (by kernel_rfl) (.cons (o_5 N) (.cons (o_6 N) .nil))) (loans:=BP.mkL p_7.store v.2) rfl ((e_7 N v K).trans h)
noncomputable def ct28 (N:Nat):CT:=(123,(wa false p_7 (g_7 N)))::ct27 N
theorem wsC (N:Nat):CTOK gd P (ct28 N):=.cons (o_7 N) (wrX N)

noncomputable def p_8:Pt:=⟨(.i .str)::.u::.u::(.i (.sl (.int .i64)))::.u::.u::(.i (.int .i64))::(.i (.int .i64))::ups 14 ([]),[]⟩
noncomputable def z_8 (F:type_of% (@wbn α 0 0)) (v:p_8.V) (K:KO α):Option α:=F v.1.1 v.1.2.2.2.1 v.1.2.2.2.2.2.2.1 v.1.2.2.2.2.2.2.2.1 (fun o0_0=>K (.normal ⟨U::U::U::(.iv (.sl (.int .i64)) o0_0)::us 18 ([]),[]⟩))
noncomputable def g_8 (n:Nat) (v:p_8.V) (K:KO α):Option α:=z_8 (wbn N n) v K
noncomputable def q_8 (N:Nat):Piece:=(wj 20673 p_8 (g_8 N N))
noncomputable def i_9 (N:Nat):Fi:={ loans:=0,owns:=true,results:=[.tmp 2],rtys:=[23],blks:=[(0,q_8 N)],regs:=[],masks:=[(0,64)] }
noncomputable def b_9:Code:=match Tryz.f72.body with | some c=>c | none=>.skip
noncomputable def n_8:Code:=(.block 0 (.loop (wq b_9 [1,1,0,1,0,0])))
theorem e_8 (n:Nat) (v:p_8.V) (K:KO α):wbe env (ct28 N) (i_9 N) 20673 (wj 20673 p_8 (g_8 N n)).run n_8 (p_8.mk' v) K=g_8 N (n + 1) v K:=Eq.trans (b:=z_8 (fun x0 x1 x2 x3 k0=>wfJ N (fun y0 y1 y2 y3=>wbn N n y0 y1 y2 y3 k0) k0 x0 x1 x2 x3) v K) (by kernel_rfl) (by unfold g_8 z_8; rw [wbn.succ])
theorem o_8 (N:Nat):wv gd P (i_9 N) n_8 (q_8 N) :=
 wI hE hP (wsC N) (wn.of (by kernel_rfl) .nil) (fun n {_}=>g_8 N n) (fun _ _=>wbn.zero ..) (fun n {_} v K=>e_8 N n v K) N
noncomputable def p_9:Pt:=⟨[(.i .str)],[]⟩
noncomputable def z_9 (F:type_of% @wd7) (v:p_9.V) (K:KF α):Option α:=F N v.1.1 (fun o0_0=>K (.iv (.sl (.int .i64)) o0_0) [])
noncomputable def g_9 (v:p_9.V) (K:KF α):Option α:=z_9 N @wd7 v K
theorem e_9 (v:p_9.V) (K:KF α):wbB env (ct28 N) (i_9 N) Tryz.f72 (SP.mkL p_9.slots v.1) (BP.mkL p_9.store v.2) K=g_9 N v K:=Eq.trans (b:=z_9 N @wd7.b v K) (by kernel_rfl) (by unfold g_9; rw [wd7.eq])
theorem o_9 (N:Nat):wk gd P 72 (wa false p_9 (g_9 N)) :=
 wh fun v K h=>wJ hE hP (wsC N) Tryz.func72 (by kernel_rfl) (body:=b_9) (by kernel_rfl) (by kernel_rfl) (wn.of (by kernel_rfl) (.cons (o_8 N) .nil)) (loans:=BP.mkL p_9.store v.2) rfl ((e_9 N v K).trans h)
noncomputable def ct29 (N:Nat):CT:=(72,(wa false p_9 (g_9 N)))::ct28 N
theorem wtc (N:Nat):CTOK gd P (ct29 N):=.cons (o_9 N) (wsC N)

noncomputable def p_ba:Pt:=⟨.u::.u::.u::(.i (.sl (.int .i64)))::.u::(.i (.int .i64))::(.i (.int .i64))::ups 6 ([]),[]⟩
noncomputable def z_ba (F:type_of% (@wc4 α 0 0)) (v:p_ba.V) (K:KO α):Option α:=F v.1.2.2.2.1 v.1.2.2.2.2.2.1 v.1.2.2.2.2.2.2.1 (fun o0_0=>K (.normal ⟨U::U::U::(.iv (.sl (.int .i64)) o0_0)::us 9 ([]),[]⟩))
noncomputable def g_ba (n:Nat) (v:p_ba.V) (K:KO α):Option α:=z_ba (wc4 N n) v K
noncomputable def q_ba (N:Nat):Piece:=(wj 5312 p_ba (g_ba N N))
noncomputable def i_bb (N:Nat):Fi:={ loans:=0,owns:=true,results:=[.tmp 2],rtys:=[23],blks:=[(0,q_ba N)],regs:=[],masks:=[(0,64)] }
noncomputable def b_bb:Code:=match Tryz.f83.body with | some c=>c | none=>.skip
noncomputable def n_ba:Code:=(.block 0 (.loop (wq b_bb [1,1,0,1,0,0])))
theorem e_ba (n:Nat) (v:p_ba.V) (K:KO α):wbe env (ct29 N) (i_bb N) 5312 (wj 5312 p_ba (g_ba N n)).run n_ba (p_ba.mk' v) K=g_ba N (n + 1) v K:=Eq.trans (b:=z_ba (fun x0 x1 x2 k0=>wha N (fun y0 y1 y2=>wc4 N n y0 y1 y2 k0) k0 x0 x1 x2) v K) (by kernel_rfl) (by unfold g_ba z_ba; rw [wc4.succ])
theorem o_ba (N:Nat):wv gd P (i_bb N) n_ba (q_ba N) :=
 wI hE hP (wtc N) (wn.of (by kernel_rfl) .nil) (fun n {_}=>g_ba N n) (fun _ _=>wc4.zero ..) (fun n {_} v K=>e_ba N n v K) N
noncomputable def p_bb:Pt:=⟨[(.i (.int .i64))],[]⟩
noncomputable def z_bb (F:type_of% @wfT) (v:p_bb.V) (K:KF α):Option α:=F N v.1.1 (fun o0_0=>K (.iv (.sl (.int .i64)) o0_0) [])
noncomputable def g_bb (v:p_bb.V) (K:KF α):Option α:=z_bb N @wfT v K
theorem e_bb (v:p_bb.V) (K:KF α):wbB env (ct29 N) (i_bb N) Tryz.f83 (SP.mkL p_bb.slots v.1) (BP.mkL p_bb.store v.2) K=g_bb N v K:=Eq.trans (b:=z_bb N @wfT.b v K) (by kernel_rfl) (by unfold g_bb; rw [wfT.eq])
theorem o_bb (N:Nat):wk gd P 83 (wa false p_bb (g_bb N)) :=
 wh fun v K h=>wJ hE hP (wtc N) Tryz.func83 (by kernel_rfl) (body:=b_bb) (by kernel_rfl) (by kernel_rfl) (wn.of (by kernel_rfl) (.cons (o_ba N) .nil)) (loans:=BP.mkL p_bb.store v.2) rfl ((e_bb N v K).trans h)
noncomputable def ct30 (N:Nat):CT:=(83,(wa false p_bb (g_bb N)))::ct29 N
theorem wuh (N:Nat):CTOK gd P (ct30 N):=.cons (o_bb N) (wtc N)

noncomputable def i_bc (N:Nat):Fi:={ loans:=0,owns:=true,results:=[.cell 4 25],rtys:=[25],blks:=[],regs:=[],masks:=[] }
noncomputable def b_bc:Code:=match Tryz.f81.body with | some c=>c | none=>.skip
noncomputable def p_bc:Pt:=⟨[(.i .bool),(.i (.sl (.int .i64)))],[]⟩
noncomputable def z_bc (F:type_of% @wea) (v:p_bc.V) (K:KF α):Option α:=F N v.1.1 v.1.2.1 (fun o0_0 o0_1 o0_2=>K (.agg [(.iv .bool o0_0),(.iv (.sl (.int .i64)) o0_1),(.own 0)]) [(.arr 3 (.int .i64) o0_2 false)])
noncomputable def g_bc (v:p_bc.V) (K:KF α):Option α:=z_bc N @wea v K
theorem e_bc (v:p_bc.V) (K:KF α):wbB env (ct30 N) (i_bc N) Tryz.f81 (SP.mkL p_bc.slots v.1) (BP.mkL p_bc.store v.2) K=g_bc N v K:=Eq.trans (b:=z_bc N @wea.b v K) (by kernel_rfl) (by unfold g_bc; rw [wea.eq])
theorem o_bc (N:Nat):wk gd P 81 (wa false p_bc (g_bc N)) :=
 wh fun v K h=>wJ hE hP (wuh N) Tryz.func81 (by kernel_rfl) (body:=b_bc) (by kernel_rfl) (by kernel_rfl) (wn.of (by kernel_rfl) .nil) (loans:=BP.mkL p_bc.store v.2) rfl ((e_bc N v K).trans h)
noncomputable def ct31 (N:Nat):CT:=(81,(wa false p_bc (g_bc N)))::ct30 N
theorem wug (N:Nat):CTOK gd P (ct31 N):=.cons (o_bc N) (wuh N)

noncomputable def i_bd (N:Nat):Fi:={ loans:=0,owns:=true,results:=[.tmp 2],rtys:=[23],blks:=[],regs:=[],masks:=[] }
noncomputable def b_bd:Code:=match Tryz.f107.body with | some c=>c | none=>.skip
noncomputable def p_bd:Pt:=⟨[(.i (.sl (.int .i64)))],[]⟩
noncomputable def g_bd (N:Nat) {α:Type} (v:p_bd.V) (K:HV→List Blk→Option α):Option α:=wc7 N v.1.1 (fun x=>K (.own 0) [.arr 3 (.int .i64) x false])
theorem o_bd (N:Nat):wk gd P 107 (wa false p_bd (g_bd N)) :=
 wrO hE hP (wug N) Tryz.func107 (by kernel_rfl) (body:=b_bd) (by kernel_rfl) (F:=i_bd N) (by kernel_rfl) (wn.of (F:=i_bd N) (l:=[]) (by kernel_rfl) .nil) rfl (t:=(.int .i64)) (e:=3) (l:=8796093022208) (fun _=>by kernel_rfl) (fun _ _=>by kernel_rfl)
noncomputable def ct32 (N:Nat):CT:=(107,(wa false p_bd (g_bd N)))::ct31 N
theorem wun (N:Nat):CTOK gd P (ct32 N):=.cons (o_bd N) (wug N)

noncomputable def i_be (N:Nat):Fi:={ loans:=1,owns:=true,results:=[.tmp 2],rtys:=[23],blks:=[],regs:=[],masks:=[] }
noncomputable def b_be:Code:=match Tryz.f150.body with | some c=>c | none=>.skip
noncomputable def p_be:Pt:=⟨[(.o 0)],[(.arr 3 (.int .i64) false)]⟩
noncomputable def z_be (F:type_of% @wct) (v:p_be.V) (K:KF α):Option α:=F N v.2.1 (fun o0_0=>K (.own 1) [.gone,(.arr 3 (.int .i64) o0_0 false)])
noncomputable def g_be (v:p_be.V) (K:KF α):Option α:=z_be N @wct v K
theorem e_be (v:p_be.V) (K:KF α):wbB env (ct32 N) (i_be N) Tryz.f150 (SP.mkL p_be.slots v.1) (BP.mkL p_be.store v.2) K=g_be N v K:=Eq.trans (b:=z_be N @wct.b v K) (by kernel_rfl) (by unfold g_be; rw [wct.eq])
theorem o_be (N:Nat):wk gd P 150 (wa true p_be (g_be N)) :=
 wh fun v K h=>wJ hE hP (wun N) Tryz.func150 (by kernel_rfl) (body:=b_be) (by kernel_rfl) (by kernel_rfl) (wn.of (by kernel_rfl) .nil) (loans:=BP.mkL p_be.store v.2) rfl ((e_be N v K).trans h)
noncomputable def ct33 (N:Nat):CT:=(150,(wa true p_be (g_be N)))::ct32 N
theorem wud (N:Nat):CTOK gd P (ct33 N):=.cons (o_be N) (wun N)

noncomputable def i_bf (N:Nat):Fi:={ loans:=0,owns:=true,results:=[.tmp 2],rtys:=[23],blks:=[],regs:=[],masks:=[] }
noncomputable def b_bf:Code:=match Tryz.f122.body with | some c=>c | none=>.skip
noncomputable def p_bf:Pt:=⟨[(.i (.sl (.int .i64)))],[]⟩
noncomputable def z_bf (F:type_of% @wdd) (v:p_bf.V) (K:KF α):Option α:=F N v.1.1 (fun o0_0=>K (.own 0) [(.arr 3 (.int .i64) o0_0 false)])
noncomputable def g_bf (v:p_bf.V) (K:KF α):Option α:=z_bf N @wdd v K
theorem e_bf (v:p_bf.V) (K:KF α):wbB env (ct33 N) (i_bf N) Tryz.f122 (SP.mkL p_bf.slots v.1) (BP.mkL p_bf.store v.2) K=g_bf N v K:=Eq.trans (b:=z_bf N @wdd.b v K) (by kernel_rfl) (by unfold g_bf; rw [wdd.eq])
theorem o_bf (N:Nat):wk gd P 122 (wa false p_bf (g_bf N)) :=
 wh fun v K h=>wJ hE hP (wud N) Tryz.func122 (by kernel_rfl) (body:=b_bf) (by kernel_rfl) (by kernel_rfl) (wn.of (by kernel_rfl) .nil) (loans:=BP.mkL p_bf.store v.2) rfl ((e_bf N v K).trans h)
noncomputable def ct34 (N:Nat):CT:=(122,(wa false p_bf (g_bf N)))::ct33 N
theorem wuU (N:Nat):CTOK gd P (ct34 N):=.cons (o_bf N) (wud N)

noncomputable def i_bg (N:Nat):Fi:={ loans:=0,owns:=true,results:=[.cell 2 25,.tmp 3],rtys:=[25,4],blks:=[],regs:=[],masks:=[] }
noncomputable def b_bg:Code:=match Tryz.f80.body with | some c=>c | none=>.skip
noncomputable def p_bg:Pt:=⟨[(.i (.pair .bool (.pair (.sl (.int .i64)) (.pair (.sl (.int .i64)) .unit))))],[]⟩
noncomputable def z_bg (F:type_of% @weW) (v:p_bg.V) (K:KF α):Option α:=F N v.1.1 (fun o0_0 o0_1 o0_2 o0_3=>K (.tuple [(.agg [(.iv .bool o0_0),(.own 0),(.own 1)]),(.iv .bool o0_1)]) [(.arr 3 (.int .i64) o0_2 false),(.arr 3 (.int .i64) o0_3 false)])
noncomputable def g_bg (v:p_bg.V) (K:KF α):Option α:=z_bg N @weW v K
theorem e_bg (v:p_bg.V) (K:KF α):wbB env (ct34 N) (i_bg N) Tryz.f80 (SP.mkL p_bg.slots v.1) (BP.mkL p_bg.store v.2) K=g_bg N v K:=Eq.trans (b:=z_bg N @weW.b v K) (by kernel_rfl) (by unfold g_bg; rw [weW.eq])
theorem o_bg (N:Nat):wk gd P 80 (wa false p_bg (g_bg N)) :=
 wh fun v K h=>wJ hE hP (wuU N) Tryz.func80 (by kernel_rfl) (body:=b_bg) (by kernel_rfl) (by kernel_rfl) (wn.of (by kernel_rfl) .nil) (loans:=BP.mkL p_bg.store v.2) rfl ((e_bg N v K).trans h)
noncomputable def ct35 (N:Nat):CT:=(80,(wa false p_bg (g_bg N)))::ct34 N
theorem wsW (N:Nat):CTOK gd P (ct35 N):=.cons (o_bg N) (wuU N)

noncomputable def p_bh:Pt:=⟨(.i (.sl (.int .i64)))::(.i (.sl (.int .i64)))::.u::.u::.u::(.i (.int .i64))::ups 39 ([]),[]⟩
noncomputable def z_bh (F:type_of% (@wbI α 0 0)) (v:p_bh.V) (K:KO α):Option α:=F v.1.1 v.1.2.1 v.1.2.2.2.2.2.1 (fun o0_0=>K (.ret (.iv (.int .i64) o0_0) [])) (K (.normal ⟨us 45 ([]),[]⟩))
noncomputable def g_bh (n:Nat) (v:p_bh.V) (K:KO α):Option α:=z_bh (wbI N n) v K
noncomputable def q_bh (N:Nat):Piece:=(wj 1029 p_bh (g_bh N N))
noncomputable def i_bi (N:Nat):Fi:={ loans:=0,owns:=true,results:=[.tmp 4],rtys:=[3],blks:=[(0,q_bh N)],regs:=[],masks:=[(0,0)] }
noncomputable def b_bi:Code:=match Tryz.f27.body with | some c=>c | none=>.skip
noncomputable def n_bh:Code:=(.block 0 (.loop (wq b_bi [1,1,0,1,0,0])))
theorem e_bh (n:Nat) (v:p_bh.V) (K:KO α):wbe env (ct35 N) (i_bi N) 1029 (wj 1029 p_bh (g_bh N n)).run n_bh (p_bh.mk' v) K=g_bh N (n + 1) v K:=Eq.trans (b:=z_bh (fun x0 x1 x2 k0 k1=>wga N (fun y0 y1 y2=>wbI N n y0 y1 y2 k0 k1) k0 k1 x0 x1 x2) v K) (by kernel_rfl) (by unfold g_bh z_bh; rw [wbI.succ])
theorem o_bh (N:Nat):wv gd P (i_bi N) n_bh (q_bh N) :=
 wI hE hP (wsW N) (wn.of (by kernel_rfl) .nil) (fun n {_}=>g_bh N n) (fun _ _=>wbI.zero ..) (fun n {_} v K=>e_bh N n v K) N
noncomputable def p_bi:Pt:=⟨[(.i (.sl (.int .i64))),(.i (.sl (.int .i64)))],[]⟩
noncomputable def z_bi (F:type_of% @wdL) (v:p_bi.V) (K:KF α):Option α:=F N v.1.1 v.1.2.1 (fun o0_0=>K (.iv (.int .i64) o0_0) [])
noncomputable def g_bi (v:p_bi.V) (K:KF α):Option α:=z_bi N @wdL v K
theorem e_bi (v:p_bi.V) (K:KF α):wbB env (ct35 N) (i_bi N) Tryz.f27 (SP.mkL p_bi.slots v.1) (BP.mkL p_bi.store v.2) K=g_bi N v K:=Eq.trans (b:=z_bi N @wdL.b v K) (by kernel_rfl) (by unfold g_bi; rw [wdL.eq])
theorem o_bi (N:Nat):wk gd P 27 (wa false p_bi (g_bi N)) :=
 wh fun v K h=>wJ hE hP (wsW N) Tryz.func27 (by kernel_rfl) (body:=b_bi) (by kernel_rfl) (by kernel_rfl) (wn.of (by kernel_rfl) (.cons (o_bh N) .nil)) (loans:=BP.mkL p_bi.store v.2) rfl ((e_bi N v K).trans h)
noncomputable def ct36 (N:Nat):CT:=(27,(wa false p_bi (g_bi N)))::ct35 N
theorem wqy (N:Nat):CTOK gd P (ct36 N):=.cons (o_bi N) (wsW N)

noncomputable def p_bj:Pt:=⟨(.i (.int .u64))::.u::(.i (.int .i64))::ups 22 ([]),[]⟩
noncomputable def z_bj (F:type_of% @wch) (v:p_bj.V) (K:KO α):Option α:=F N v.1.1 v.1.2.2.1 (fun o0_0 o0_1=>K (.normal ⟨(.iv (.int .u64) o0_0)::U::(.iv (.int .i64) o0_1)::us 22 ([]),[]⟩))
noncomputable def g_bj (v:p_bj.V) (K:KO α):Option α:=z_bj N @wch v K
noncomputable def p_bk:Pt:=⟨(.i (.int .u64))::.u::(.i (.int .i64))::ups 22 ([]),[]⟩
noncomputable def z_bk (F:type_of% @wcq) (v:p_bk.V) (K:KO α):Option α:=F N v.1.1 v.1.2.2.1 (fun o0_0 o0_1=>K (.normal ⟨(.iv (.int .u64) o0_0)::U::(.iv (.int .i64) o0_1)::us 22 ([]),[]⟩))
noncomputable def g_bk (v:p_bk.V) (K:KO α):Option α:=z_bk N @wcq v K
noncomputable def p_bl:Pt:=⟨(.i (.int .u64))::.u::(.i (.int .i64))::ups 22 ([]),[]⟩
noncomputable def z_bl (F:type_of% @wcg) (v:p_bl.V) (K:KO α):Option α:=F N v.1.1 v.1.2.2.1 (fun o0_0 o0_1=>K (.normal ⟨(.iv (.int .u64) o0_0)::U::(.iv (.int .i64) o0_1)::us 22 ([]),[]⟩))
noncomputable def g_bl (v:p_bl.V) (K:KO α):Option α:=z_bl N @wcg v K
noncomputable def q_bj (N:Nat):Piece:=(wj 17 p_bj (g_bj N))
noncomputable def q_bk (N:Nat):Piece:=(wj 17 p_bk (g_bk N))
noncomputable def q_bl (N:Nat):Piece:=(wj 17 p_bl (g_bl N))
noncomputable def i_bm (N:Nat):Fi:={ loans:=0,owns:=true,results:=[.tmp 2],rtys:=[3],blks:=[],regs:=[(1,q_bj N),(4,q_bk N),(7,q_bl N)],masks:=[] }
noncomputable def b_bm:Code:=match Tryz.f140.body with | some c=>c | none=>.skip
noncomputable def n_bj:Code:=(.seq (wq b_bm [1,0,0]) (wq b_bm [1,0,1]))
noncomputable def n_bk:Code:=(.seq (wq b_bm [1,1,0,0]) (wq b_bm [1,1,0,1]))
noncomputable def n_bl:Code:=(.seq (wq b_bm [1,1,1,0,0]) (wq b_bm [1,1,1,0,1]))
theorem e_bj (v:p_bj.V) (K:KO α):wcK env (ct36 N) (i_bm N) 17 n_bj (p_bj.mk' v) K=g_bj N v K:=Eq.trans (b:=z_bj N @wch.b v K) (by kernel_rfl) (by unfold g_bj; rw [wch.eq])
theorem o_bj (N:Nat):wv gd P (i_bm N) n_bj (q_bj N) :=
 wG hE hP (wqy N) (wn.of (by kernel_rfl) .nil) (wn.of (by kernel_rfl) .nil) (e_bj N)
theorem e_bk (v:p_bk.V) (K:KO α):wcK env (ct36 N) (i_bm N) 17 n_bk (p_bk.mk' v) K=g_bk N v K:=Eq.trans (b:=z_bk N @wcq.b v K) (by kernel_rfl) (by unfold g_bk; rw [wcq.eq])
theorem o_bk (N:Nat):wv gd P (i_bm N) n_bk (q_bk N) :=
 wG hE hP (wqy N) (wn.of (by kernel_rfl) .nil) (wn.of (by kernel_rfl) .nil) (e_bk N)
theorem e_bl (v:p_bl.V) (K:KO α):wcK env (ct36 N) (i_bm N) 17 n_bl (p_bl.mk' v) K=g_bl N v K:=Eq.trans (b:=z_bl N @wcg.b v K) (by kernel_rfl) (by unfold g_bl; rw [wcg.eq])
theorem o_bl (N:Nat):wv gd P (i_bm N) n_bl (q_bl N) :=
 wG hE hP (wqy N) (wn.of (by kernel_rfl) .nil) (wn.of (by kernel_rfl) .nil) (e_bl N)
noncomputable def p_bm:Pt:=⟨[(.i (.int .u64))],[]⟩
noncomputable def z_bm (F:type_of% @wcZ) (v:p_bm.V) (K:KF α):Option α:=F N v.1.1 (fun o0_0=>K (.iv (.int .i64) o0_0) [])
noncomputable def g_bm (v:p_bm.V) (K:KF α):Option α:=z_bm N @wcZ v K
theorem e_bm (v:p_bm.V) (K:KF α):wbB env (ct36 N) (i_bm N) Tryz.f140 (SP.mkL p_bm.slots v.1) (BP.mkL p_bm.store v.2) K=g_bm N v K:=Eq.trans (b:=z_bm N @wcZ.b v K) (by kernel_rfl) (by unfold g_bm; rw [wcZ.eq])
theorem o_bm (N:Nat):wk gd P 140 (wa false p_bm (g_bm N)) :=
 wh fun v K h=>wJ hE hP (wqy N) Tryz.func140 (by kernel_rfl) (body:=b_bm) (by kernel_rfl) (by kernel_rfl) (wn.of (by kernel_rfl) (.cons (o_bj N) (.cons (o_bk N) (.cons (o_bl N) .nil)))) (loans:=BP.mkL p_bm.store v.2) rfl ((e_bm N v K).trans h)
noncomputable def ct37 (N:Nat):CT:=(140,(wa false p_bm (g_bm N)))::ct36 N
theorem wuK (N:Nat):CTOK gd P (ct37 N):=.cons (o_bm N) (wqy N)

noncomputable def i_bn (N:Nat):Fi:={ loans:=0,owns:=true,results:=[.tmp 2],rtys:=[3],blks:=[],regs:=[],masks:=[] }
noncomputable def b_bn:Code:=match Tryz.f106.body with | some c=>c | none=>.skip
noncomputable def p_bn:Pt:=⟨[(.i (.int .u64))],[]⟩
noncomputable def z_bn (F:type_of% @wcW) (v:p_bn.V) (K:KF α):Option α:=F N v.1.1 (fun o0_0=>K (.iv (.int .i64) o0_0) [])
noncomputable def g_bn (v:p_bn.V) (K:KF α):Option α:=z_bn N @wcW v K
theorem e_bn (v:p_bn.V) (K:KF α):wbB env (ct37 N) (i_bn N) Tryz.f106 (SP.mkL p_bn.slots v.1) (BP.mkL p_bn.store v.2) K=g_bn N v K:=Eq.trans (b:=z_bn N @wcW.b v K) (by kernel_rfl) (by unfold g_bn; rw [wcW.eq])
theorem o_bn (N:Nat):wk gd P 106 (wa false p_bn (g_bn N)) :=
 wh fun v K h=>wJ hE hP (wuK N) Tryz.func106 (by kernel_rfl) (body:=b_bn) (by kernel_rfl) (by kernel_rfl) (wn.of (by kernel_rfl) .nil) (loans:=BP.mkL p_bn.store v.2) rfl ((e_bn N v K).trans h)
noncomputable def ct38 (N:Nat):CT:=(106,(wa false p_bn (g_bn N)))::ct37 N
theorem wqE (N:Nat):CTOK gd P (ct38 N):=.cons (o_bn N) (wuK N)

noncomputable def p_bo:Pt:=⟨(.i (.sl (.int .i64)))::ups 4 ((.i (.int .i64))::(.i (.int .i64))::(.o 0)::(.i (.int .i64))::ups 21 ((.i (.int .i64))::(.i (.int .i64))::ups 77 ([]))),[(.arr 3 (.int .i64) false)]⟩
noncomputable def z_bo (F:type_of% @wcF) (v:p_bo.V) (K:KO α):Option α:=F N v.1.1 (nx 4 v.1.2).1 (nx 4 v.1.2).2.1 (nx 4 v.1.2).2.2.2.1 (nx 21 (nx 4 v.1.2).2.2.2.2).1 (nx 21 (nx 4 v.1.2).2.2.2.2).2.1 v.2.1 (fun o0_0 o0_1 o0_2 o0_3 o0_4 o0_5=>K (.normal ⟨(.iv (.sl (.int .i64)) o0_0)::us 4 ((.iv (.int .i64) o0_1)::(.iv (.int .i64) o0_2)::(.own 0)::us 22 ((.iv (.int .i64) o0_3)::(.iv (.int .i64) o0_4)::us 77 ([]))),[(.arr 3 (.int .i64) o0_5 false)]⟩))
noncomputable def g_bo (v:p_bo.V) (K:KO α):Option α:=z_bo N @wcF v K
noncomputable def p_bp:Pt:=⟨(.i (.sl (.int .i64)))::ups 4 ((.i (.int .i64))::(.i (.int .i64))::(.o 0)::ups 22 ((.i (.int .i64))::(.i (.int .i64))::ups 77 ([]))),[(.arr 3 (.int .i64) false)]⟩
noncomputable def z_bp (F:type_of% (@w9 α 0 0)) (v:p_bp.V) (K:KO α):Option α:=F v.1.1 (nx 4 v.1.2).1 (nx 4 v.1.2).2.1 (nx 22 (nx 4 v.1.2).2.2.2).1 (nx 22 (nx 4 v.1.2).2.2.2).2.1 v.2.1 (fun o0_0=>K (.normal ⟨us 7 ((.own 0)::us 101 ([])),[(.arr 3 (.int .i64) o0_0 false)]⟩))
noncomputable def g_bp (n:Nat) (v:p_bp.V) (K:KO α):Option α:=z_bp (w9 N n) v K
noncomputable def p_bq:Pt:=⟨.u::(.i (.int .i64))::ups 7 ((.o 0)::ups 65 ((.i (.sl (.int .i64)))::(.i (.int .i64))::(.i (.int .i64))::ups 31 ([]))),[(.arr 3 (.int .i64) false)]⟩
noncomputable def z_bq (F:type_of% (@wba α 0 0)) (v:p_bq.V) (K:KO α):Option α:=F v.1.2.1 (nx 65 (nx 7 v.1.2.2).2).1 (nx 65 (nx 7 v.1.2.2).2).2.1 (nx 65 (nx 7 v.1.2.2).2).2.2.1 v.2.1 (fun o0_0=>K (.normal ⟨us 9 ((.own 0)::us 99 ([])),[(.arr 3 (.int .i64) o0_0 false)]⟩))
noncomputable def g_bq (n:Nat) (v:p_bq.V) (K:KO α):Option α:=z_bq (wba N n) v K
noncomputable def q_bo (N:Nat):Piece:=(wj 5764607523034321921 p_bo (g_bo N))
noncomputable def q_bp (N:Nat):Piece:=(wj 5764607523034256385 p_bp (g_bp N N))
noncomputable def q_bq (N:Nat):Piece:=(wj 29972201546825157502224005358439397864037941252 p_bq (g_bq N N))
noncomputable def i_br (N:Nat):Fi:={ loans:=0,owns:=false,results:=[.tmp 4],rtys:=[23],blks:=[(0,q_bp N),(2,q_bq N)],regs:=[(10,q_bo N)],masks:=[(0,16384),(2,262144)] }
noncomputable def b_br:Code:=match Tryz.f92.body with | some c=>c | none=>.skip
noncomputable def n_bo:Code:=(.seq (wq b_br [1,0,1,0,1,1,1,0,1,0,0,1,1,0,0,1,1,0]) (wq b_br [1,0,1,0,1,1,1,0,1,0,0,1,1,0,0,1,1,1]))
noncomputable def n_bp:Code:=(.block 0 (.loop (wq b_br [1,0,1,0,1,1,1,0,1,0,0])))
noncomputable def n_bq:Code:=(.block 2 (.loop (wq b_br [1,1,1,0,1,0,0])))
theorem e_bo (v:p_bo.V) (K:KO α):wcK env (ct38 N) (i_br N) 5764607523034256385 n_bo (p_bo.mk' v) K=g_bo N v K:=Eq.trans (b:=z_bo N @wcF.b v K) (by kernel_rfl) (by unfold g_bo; rw [wcF.eq])
theorem o_bo (N:Nat):wv gd P (i_br N) n_bo (q_bo N) :=
 wG hE hP (wqE N) (wn.of (by kernel_rfl) .nil) (wn.of (by kernel_rfl) .nil) (e_bo N)
theorem e_bp (n:Nat) (v:p_bp.V) (K:KO α):wbe env (ct38 N) (i_br N) 5764607523034256385 (wj 5764607523034256385 p_bp (g_bp N n)).run n_bp (p_bp.mk' v) K=g_bp N (n + 1) v K:=Eq.trans (b:=z_bp (fun x0 x1 x2 x3 x4 x5 k0=>wfs N (fun y0 y1 y2 y3 y4 y5=>w9 N n y0 y1 y2 y3 y4 y5 k0) k0 x0 x1 x2 x3 x4 x5) v K) (by kernel_rfl) (by unfold g_bp z_bp; rw [w9.succ])
theorem o_bp (N:Nat):wv gd P (i_br N) n_bp (q_bp N) :=
 wI hE hP (wqE N) (wn.of (by kernel_rfl) (.cons (o_bo N) .nil)) (fun n {_}=>g_bp N n) (fun _ _=>w9.zero ..) (fun n {_} v K=>e_bp N n v K) N
theorem e_bq (n:Nat) (v:p_bq.V) (K:KO α):wbe env (ct38 N) (i_br N) 29972201546825157502224005358439397864037941252 (wj 29972201546825157502224005358439397864037941252 p_bq (g_bq N n)).run n_bq (p_bq.mk' v) K=g_bq N (n + 1) v K:=Eq.trans (b:=z_bq (fun x0 x1 x2 x3 x4 k0=>wfv N (fun y0 y1 y2 y3 y4=>wba N n y0 y1 y2 y3 y4 k0) k0 x0 x1 x2 x3 x4) v K) (by kernel_rfl) (by unfold g_bq z_bq; rw [wba.succ])
theorem o_bq (N:Nat):wv gd P (i_br N) n_bq (q_bq N) :=
 wI hE hP (wqE N) (wn.of (by kernel_rfl) .nil) (fun n {_}=>g_bq N n) (fun _ _=>wba.zero ..) (fun n {_} v K=>e_bq N n v K) N
noncomputable def p_br:Pt:=⟨[(.i (.sl (.int .i64))),(.i (.int .i64))],[]⟩
noncomputable def z_br (F:type_of% @wbq) (v:p_br.V) (K:KF α):Option α:=F N v.1.1 v.1.2.1 (fun o0_0=>K (.iv (.sl (.int .i64)) o0_0) [])
noncomputable def g_br (v:p_br.V) (K:KF α):Option α:=z_br N @wbq v K
theorem e_br (v:p_br.V) (K:KF α):wbB env (ct38 N) (i_br N) Tryz.f92 (SP.mkL p_br.slots v.1) (BP.mkL p_br.store v.2) K=g_br N v K:=Eq.trans (b:=z_br N @wbq.b v K) (by kernel_rfl) (by unfold g_br; rw [wbq.eq])
theorem o_br (N:Nat):wk gd P 92 (wa false p_br (g_br N)) :=
 wh fun v K h=>wJ hE hP (wqE N) Tryz.func92 (by kernel_rfl) (body:=b_br) (by kernel_rfl) (by kernel_rfl) (wn.of (by kernel_rfl) (.cons (o_bp N) (.cons (o_bq N) .nil))) (loans:=BP.mkL p_br.store v.2) rfl ((e_br N v K).trans h)
noncomputable def ct39 (N:Nat):CT:=(92,(wa false p_br (g_br N)))::ct38 N
theorem wlV (N:Nat):CTOK gd P (ct39 N):=.cons (o_br N) (wqE N)

noncomputable def p_bs:Pt:=⟨(.i (.sl (.int .i64)))::(.i (.sl (.int .i64)))::ups 4 ((.o 0)::(.i (.int .i64))::(.i (.int .i64))::ups 268 ([])),[(.arr 3 (.int .i64) false)]⟩
noncomputable def z_bs (F:type_of% (@wbJ α 0 0)) (v:p_bs.V) (K:KO α):Option α:=F v.1.1 v.1.2.1 (nx 4 v.1.2.2).2.1 (nx 4 v.1.2.2).2.2.1 v.2.1 (fun o0_0 o0_1=>K (.normal ⟨us 6 ((.own 0)::(.iv (.int .i64) o0_0)::us 269 ([])),[(.arr 3 (.int .i64) o0_1 false)]⟩))
noncomputable def g_bs (n:Nat) (v:p_bs.V) (K:KO α):Option α:=z_bs (wbJ N n) v K
noncomputable def p_bt:Pt:=⟨(.i (.sl (.int .i64)))::ups 9 ((.i (.int .i64))::(.i (.sl (.int .i64)))::(.o 0)::(.i (.int .i64))::ups 263 ([])),[(.arr 3 (.int .i64) false)]⟩
noncomputable def z_bt (F:type_of% (@wbW α 0 0)) (v:p_bt.V) (K:KO α):Option α:=F v.1.1 (nx 9 v.1.2).1 (nx 9 v.1.2).2.1 (nx 9 v.1.2).2.2.2.1 v.2.1 (fun o0_0 o0_1 o0_2 o0_3=>K (.normal ⟨us 10 ((.iv (.int .i64) o0_0)::(.iv (.sl (.int .i64)) o0_1)::(.own 0)::(.iv (.int .i64) o0_2)::us 263 ([])),[(.arr 3 (.int .i64) o0_3 false)]⟩))
noncomputable def g_bt (n:Nat) (v:p_bt.V) (K:KO α):Option α:=z_bt (wbW N n) v K
noncomputable def p_bu:Pt:=⟨ups 10 ((.i (.int .i64))::(.i (.sl (.int .i64)))::(.o 0)::(.i (.int .i64))::(.o 1)::(.i (.int .i64))::.u::(.i (.int .i64))::(.i (.int .i64))::ups 258 ([])),[(.arr 3 (.int .i64) false),(.arr 3 (.int .i64) false)]⟩
noncomputable def z_bu (F:type_of% (@wbD α 0 0)) (v:p_bu.V) (K:KO α):Option α:=F (nx 10 v.1).1 (nx 10 v.1).2.1 (nx 10 v.1).2.2.2.1 (nx 10 v.1).2.2.2.2.2.1 (nx 10 v.1).2.2.2.2.2.2.2.1 (nx 10 v.1).2.2.2.2.2.2.2.2.1 v.2.1 v.2.2.1 (fun o0_0 o0_1 o0_2 o0_3 o0_4 o0_5 o0_6=>K (.normal ⟨us 10 ((.iv (.int .i64) o0_0)::(.iv (.sl (.int .i64)) o0_1)::(.own 0)::(.iv (.int .i64) o0_2)::(.own 1)::(.iv (.int .i64) o0_3)::U::(.iv (.int .i64) o0_4)::us 259 ([])),[(.arr 3 (.int .i64) o0_5 false),(.arr 3 (.int .i64) o0_6 false)]⟩))
noncomputable def g_bu (n:Nat) (v:p_bu.V) (K:KO α):Option α:=z_bu (wbD N n) v K
noncomputable def p_bv:Pt:=⟨ups 10 ((.i (.int .i64))::(.i (.sl (.int .i64)))::(.o 0)::(.i (.int .i64))::(.o 1)::(.i (.int .i64))::.u::(.i (.int .i64))::.u::(.i (.int .i64))::(.i (.int .i64))::.u::(.i (.int .i64))::ups 152 ((.i (.sl (.int .i64)))::(.i (.int .i64))::(.i (.int .i64))::ups 99 ([]))),[(.arr 3 (.int .i64) false),(.arr 3 (.int .i64) false)]⟩
noncomputable def z_bv (F:type_of% @wcO) (v:p_bv.V) (K:KO α):Option α:=F N (nx 10 v.1).1 (nx 10 v.1).2.1 (nx 10 v.1).2.2.2.1 (nx 10 v.1).2.2.2.2.2.1 (nx 10 v.1).2.2.2.2.2.2.2.1 (nx 10 v.1).2.2.2.2.2.2.2.2.2.1 (nx 10 v.1).2.2.2.2.2.2.2.2.2.2.1 (nx 10 v.1).2.2.2.2.2.2.2.2.2.2.2.2.1 (nx 152 (nx 10 v.1).2.2.2.2.2.2.2.2.2.2.2.2.2).1 (nx 152 (nx 10 v.1).2.2.2.2.2.2.2.2.2.2.2.2.2).2.1 (nx 152 (nx 10 v.1).2.2.2.2.2.2.2.2.2.2.2.2.2).2.2.1 v.2.1 v.2.2.1 (fun o0_0 o0_1 o0_2 o0_3 o0_4 o0_5 o0_6 o0_7 o0_8 o0_9 o0_10 o0_11 o0_12=>K (.normal ⟨us 10 ((.iv (.int .i64) o0_0)::(.iv (.sl (.int .i64)) o0_1)::(.own 0)::(.iv (.int .i64) o0_2)::(.own 1)::(.iv (.int .i64) o0_3)::U::(.iv (.int .i64) o0_4)::U::(.iv (.int .i64) o0_5)::(.iv (.int .i64) o0_6)::U::(.iv (.int .i64) o0_7)::us 152 ((.iv (.sl (.int .i64)) o0_8)::(.iv (.int .i64) o0_9)::(.iv (.int .i64) o0_10)::us 99 ([]))),[(.arr 3 (.int .i64) o0_11 false),(.arr 3 (.int .i64) o0_12 false)]⟩))
noncomputable def g_bv (v:p_bv.V) (K:KO α):Option α:=z_bv N @wcO v K
noncomputable def p_bw:Pt:=⟨ups 10 ((.i (.int .i64))::(.i (.sl (.int .i64)))::(.o 0)::(.i (.int .i64))::(.o 1)::(.i (.int .i64))::.u::(.i (.int .i64))::.u::(.i (.int .i64))::ups 155 ((.i (.sl (.int .i64)))::(.i (.int .i64))::(.i (.int .i64))::ups 99 ([]))),[(.arr 3 (.int .i64) false),(.arr 3 (.int .i64) false)]⟩
noncomputable def z_bw (F:type_of% (@wbu α 0 0)) (v:p_bw.V) (K:KO α):Option α:=F (nx 10 v.1).1 (nx 10 v.1).2.1 (nx 10 v.1).2.2.2.1 (nx 10 v.1).2.2.2.2.2.1 (nx 10 v.1).2.2.2.2.2.2.2.1 (nx 10 v.1).2.2.2.2.2.2.2.2.2.1 (nx 155 (nx 10 v.1).2.2.2.2.2.2.2.2.2.2).1 (nx 155 (nx 10 v.1).2.2.2.2.2.2.2.2.2.2).2.1 (nx 155 (nx 10 v.1).2.2.2.2.2.2.2.2.2.2).2.2.1 v.2.1 v.2.2.1 (fun o0_0 o0_1 o0_2 o0_3 o0_4 o0_5 o0_6 o0_7=>K (.normal ⟨us 10 ((.iv (.int .i64) o0_0)::(.iv (.sl (.int .i64)) o0_1)::(.own 0)::(.iv (.int .i64) o0_2)::(.own 1)::(.iv (.int .i64) o0_3)::U::(.iv (.int .i64) o0_4)::U::(.iv (.int .i64) o0_5)::us 257 ([])),[(.arr 3 (.int .i64) o0_6 false),(.arr 3 (.int .i64) o0_7 false)]⟩))
noncomputable def g_bw (n:Nat) (v:p_bw.V) (K:KO α):Option α:=z_bw (wbu N n) v K
noncomputable def p_bx:Pt:=⟨ups 10 ((.i (.int .i64))::(.i (.sl (.int .i64)))::(.o 0)::(.i (.int .i64))::(.o 1)::(.i (.int .i64))::.u::(.i (.int .i64))::ups 5 ((.i (.int .i64))::ups 206 ((.i (.sl (.int .i64)))::(.i (.int .i64))::(.i (.int .i64))::ups 44 ([])))),[(.arr 3 (.int .i64) false),(.arr 3 (.int .i64) false)]⟩
noncomputable def z_bx (F:type_of% (@wbm α 0 0)) (v:p_bx.V) (K:KO α):Option α:=F (nx 10 v.1).1 (nx 10 v.1).2.1 (nx 10 v.1).2.2.2.1 (nx 10 v.1).2.2.2.2.2.1 (nx 10 v.1).2.2.2.2.2.2.2.1 (nx 5 (nx 10 v.1).2.2.2.2.2.2.2.2).1 (nx 206 (nx 5 (nx 10 v.1).2.2.2.2.2.2.2.2).2).1 (nx 206 (nx 5 (nx 10 v.1).2.2.2.2.2.2.2.2).2).2.1 (nx 206 (nx 5 (nx 10 v.1).2.2.2.2.2.2.2.2).2).2.2.1 v.2.1 v.2.2.1 (fun o0_0 o0_1 o0_2 o0_3 o0_4 o0_5 o0_6 o0_7=>K (.normal ⟨us 10 ((.iv (.int .i64) o0_0)::(.iv (.sl (.int .i64)) o0_1)::(.own 0)::(.iv (.int .i64) o0_2)::(.own 1)::(.iv (.int .i64) o0_3)::U::(.iv (.int .i64) o0_4)::us 5 ((.iv (.int .i64) o0_5)::us 253 ([]))),[(.arr 3 (.int .i64) o0_6 false),(.arr 3 (.int .i64) o0_7 false)]⟩))
noncomputable def g_bx (n:Nat) (v:p_bx.V) (K:KO α):Option α:=z_bx (wbm N n) v K
noncomputable def p_by:Pt:=⟨ups 10 ((.i (.int .i64))::(.i (.sl (.int .i64)))::(.o 0)::(.i (.int .i64))::(.o 1)::(.i (.int .i64))::.u::(.i (.int .i64))::ups 259 ([])),[(.arr 3 (.int .i64) false),(.arr 3 (.int .i64) false)]⟩
noncomputable def z_by (F:type_of% @wcy) (v:p_by.V) (K:KO α):Option α:=F N (nx 10 v.1).1 (nx 10 v.1).2.1 (nx 10 v.1).2.2.2.1 (nx 10 v.1).2.2.2.2.2.1 (nx 10 v.1).2.2.2.2.2.2.2.1 v.2.1 v.2.2.1 (fun o0_0 o0_1 o0_2 o0_3 o0_4 o0_5 o0_6=>K (.normal ⟨us 10 ((.iv (.int .i64) o0_0)::(.iv (.sl (.int .i64)) o0_1)::(.own 0)::(.iv (.int .i64) o0_2)::(.own 1)::(.iv (.int .i64) o0_3)::U::(.iv (.int .i64) o0_4)::us 259 ([])),[(.arr 3 (.int .i64) o0_5 false),(.arr 3 (.int .i64) o0_6 false)]⟩))
noncomputable def g_by (v:p_by.V) (K:KO α):Option α:=z_by N @wcy v K
noncomputable def p_bz:Pt:=⟨ups 10 ((.i (.int .i64))::(.i (.sl (.int .i64)))::(.o 0)::(.i (.int .i64))::(.o 1)::(.i (.int .i64))::ups 261 ([])),[(.arr 3 (.int .i64) false),(.arr 3 (.int .i64) false)]⟩
noncomputable def z_bz (F:type_of% (@wbF α 0 0)) (v:p_bz.V) (K:KO α):Option α:=F (nx 10 v.1).1 (nx 10 v.1).2.1 (nx 10 v.1).2.2.2.1 (nx 10 v.1).2.2.2.2.2.1 v.2.1 v.2.2.1 (fun o0_0 o0_1 o0_2=>K (.normal ⟨us 10 ((.iv (.int .i64) o0_0)::U::(.own 0)::U::(.own 1)::us 262 ([])),[(.arr 3 (.int .i64) o0_1 false),(.arr 3 (.int .i64) o0_2 false)]⟩))
noncomputable def g_bz (n:Nat) (v:p_bz.V) (K:KO α):Option α:=z_bz (wbF N n) v K
noncomputable def q_bs (N:Nat):Piece:=(wj 86021 p_bs (g_bs N N))
noncomputable def q_bt (N:Nat):Piece:=(wj 89128961 p_bt (g_bt N N))
noncomputable def q_bu (N:Nat):Piece:=(wj 87330652160 p_bu (g_bu N N))
noncomputable def q_bv (N:Nat):Piece:=(wj 48163470935791501743827238801343825756727864772533903598489365627125380397858180969470389615331624604401664 p_bv (g_bv N))
noncomputable def q_bw (N:Nat):Piece:=(wj 48163470935791501743827238801343825756727864772533903598489365627125380397858180969470389615312932906729472 p_bw (g_bw N N))
noncomputable def q_bx (N:Nat):Piece:=(wj 62519759709010922297490636659294598026962815280880350273172660972721869006362035772825649418195086855274549058484591561130912364074273603584 p_bx (g_bx N N))
noncomputable def q_by (N:Nat):Piece:=(wj 18611175424 p_by (g_by N))
noncomputable def q_bz (N:Nat):Piece:=(wj 1431306240 p_bz (g_bz N N))
noncomputable def i_bA (N:Nat):Fi:={ loans:=0,owns:=false,results:=[.tmp 4,.tmp 5],rtys:=[23,23],blks:=[(0,q_bs N),(2,q_bt N),(6,q_bu N),(8,q_bw N),(10,q_bx N),(4,q_bz N)],regs:=[(34,q_bv N),(40,q_by N)],masks:=[(0,20480),(2,89128960),(4,286261248),(6,18611175424),(8,293489082368),(10,70387355353088)] }
noncomputable def b_bA:Code:=match Tryz.f64.body with | some c=>c | none=>.skip
noncomputable def n_bs:Code:=(.block 0 (.loop (wq b_bA [1,1,0,1,0,1,1,0,1,0,0])))
noncomputable def n_bt:Code:=(.block 2 (.loop (wq b_bA [1,1,1,1,1,1,1,0,0,0])))
noncomputable def n_bu:Code:=(.block 6 (.loop (wq b_bA [1,1,1,1,1,1,1,1,1,0,1,0,0,1,0,0,1,1,0,0,0])))
noncomputable def n_bv:Code:=(.seq (wq b_bA [1,1,1,1,1,1,1,1,1,0,1,0,0,1,0,0,1,1,1,1,0,1,0,0,1,1,0,0,1,1,1,0,0]) (wq b_bA [1,1,1,1,1,1,1,1,1,0,1,0,0,1,0,0,1,1,1,1,0,1,0,0,1,1,0,0,1,1,1,0,1]))
noncomputable def n_bw:Code:=(.block 8 (.loop (wq b_bA [1,1,1,1,1,1,1,1,1,0,1,0,0,1,0,0,1,1,1,1,0,1,0,0])))
noncomputable def n_bx:Code:=(.block 10 (.loop (wq b_bA [1,1,1,1,1,1,1,1,1,0,1,0,0,1,0,0,1,1,1,1,1,1,0,1,0,1,1,0,1,0,0])))
noncomputable def n_by:Code:=(.seq (wq b_bA [1,1,1,1,1,1,1,1,1,0,1,0,0,1,0,0,1,1,1,1,1,1,0,0]) (wq b_bA [1,1,1,1,1,1,1,1,1,0,1,0,0,1,0,0,1,1,1,1,1,1,0,1]))
noncomputable def n_bz:Code:=(.block 4 (.loop (wq b_bA [1,1,1,1,1,1,1,1,1,0,1,0,0])))
theorem e_bs (n:Nat) (v:p_bs.V) (K:KO α):wbe env (ct39 N) (i_bA N) 86021 (wj 86021 p_bs (g_bs N n)).run n_bs (p_bs.mk' v) K=g_bs N (n + 1) v K:=Eq.trans (b:=z_bs (fun x0 x1 x2 x3 x4 k0=>wf2 N (fun y0 y1 y2 y3 y4=>wbJ N n y0 y1 y2 y3 y4 k0) k0 x0 x1 x2 x3 x4) v K) (by kernel_rfl) (by unfold g_bs z_bs; rw [wbJ.succ])
theorem o_bs (N:Nat):wv gd P (i_bA N) n_bs (q_bs N) :=
 wI hE hP (wlV N) (wn.of (by kernel_rfl) .nil) (fun n {_}=>g_bs N n) (fun _ _=>wbJ.zero ..) (fun n {_} v K=>e_bs N n v K) N
theorem e_bt (n:Nat) (v:p_bt.V) (K:KO α):wbe env (ct39 N) (i_bA N) 89128961 (wj 89128961 p_bt (g_bt N n)).run n_bt (p_bt.mk' v) K=g_bt N (n + 1) v K:=Eq.trans (b:=z_bt (fun x0 x1 x2 x3 x4 k0=>wgI N (fun y0 y1 y2 y3 y4=>wbW N n y0 y1 y2 y3 y4 k0) k0 x0 x1 x2 x3 x4) v K) (by kernel_rfl) (by unfold g_bt z_bt; rw [wbW.succ])
theorem o_bt (N:Nat):wv gd P (i_bA N) n_bt (q_bt N) :=
 wI hE hP (wlV N) (wn.of (by kernel_rfl) .nil) (fun n {_}=>g_bt N n) (fun _ _=>wbW.zero ..) (fun n {_} v K=>e_bt N n v K) N
theorem e_bu (n:Nat) (v:p_bu.V) (K:KO α):wbe env (ct39 N) (i_bA N) 87330652160 (wj 87330652160 p_bu (g_bu N n)).run n_bu (p_bu.mk' v) K=g_bu N (n + 1) v K:=Eq.trans (b:=z_bu (fun x0 x1 x2 x3 x4 x5 x6 x7 k0=>wgE N (fun y0 y1 y2 y3 y4 y5 y6 y7=>wbD N n y0 y1 y2 y3 y4 y5 y6 y7 k0) k0 x0 x1 x2 x3 x4 x5 x6 x7) v K) (by kernel_rfl) (by unfold g_bu z_bu; rw [wbD.succ])
theorem o_bu (N:Nat):wv gd P (i_bA N) n_bu (q_bu N) :=
 wI hE hP (wlV N) (wn.of (by kernel_rfl) .nil) (fun n {_}=>g_bu N n) (fun _ _=>wbD.zero ..) (fun n {_} v K=>e_bu N n v K) N
theorem e_bv (v:p_bv.V) (K:KO α):wcK env (ct39 N) (i_bA N) 48163470935791501743827238801343825756727864772533903598489365627125380397858180969470389615331624604401664 n_bv (p_bv.mk' v) K=g_bv N v K:=Eq.trans (b:=z_bv N @wcO.b v K) (by kernel_rfl) (by unfold g_bv; rw [wcO.eq])
theorem o_bv (N:Nat):wv gd P (i_bA N) n_bv (q_bv N) :=
 wG hE hP (wlV N) (wn.of (by kernel_rfl) .nil) (wn.of (by kernel_rfl) .nil) (e_bv N)
theorem e_bw (n:Nat) (v:p_bw.V) (K:KO α):wbe env (ct39 N) (i_bA N) 48163470935791501743827238801343825756727864772533903598489365627125380397858180969470389615312932906729472 (wj 48163470935791501743827238801343825756727864772533903598489365627125380397858180969470389615312932906729472 p_bw (g_bw N n)).run n_bw (p_bw.mk' v) K=g_bw N (n + 1) v K:=Eq.trans (b:=z_bw (fun x0 x1 x2 x3 x4 x5 x6 x7 x8 x9 x10 k0=>wgc N (fun y0 y1 y2 y3 y4 y5 y6 y7 y8 y9 y10=>wbu N n y0 y1 y2 y3 y4 y5 y6 y7 y8 y9 y10 k0) k0 x0 x1 x2 x3 x4 x5 x6 x7 x8 x9 x10) v K) (by kernel_rfl) (by unfold g_bw z_bw; rw [wbu.succ])
theorem o_bw (N:Nat):wv gd P (i_bA N) n_bw (q_bw N) :=
 wI hE hP (wlV N) (wn.of (by kernel_rfl) (.cons (o_bv N) .nil)) (fun n {_}=>g_bw N n) (fun _ _=>wbu.zero ..) (fun n {_} v K=>e_bw N n v K) N
theorem e_bx (n:Nat) (v:p_bx.V) (K:KO α):wbe env (ct39 N) (i_bA N) 62519759709010922297490636659294598026962815280880350273172660972721869006362035772825649418195086855274549058484591561130912364074273603584 (wj 62519759709010922297490636659294598026962815280880350273172660972721869006362035772825649418195086855274549058484591561130912364074273603584 p_bx (g_bx N n)).run n_bx (p_bx.mk' v) K=g_bx N (n + 1) v K:=Eq.trans (b:=z_bx (fun x0 x1 x2 x3 x4 x5 x6 x7 x8 x9 x10 k0=>wfI N (fun y0 y1 y2 y3 y4 y5 y6 y7 y8 y9 y10=>wbm N n y0 y1 y2 y3 y4 y5 y6 y7 y8 y9 y10 k0) k0 x0 x1 x2 x3 x4 x5 x6 x7 x8 x9 x10) v K) (by kernel_rfl) (by unfold g_bx z_bx; rw [wbm.succ])
theorem o_bx (N:Nat):wv gd P (i_bA N) n_bx (q_bx N) :=
 wI hE hP (wlV N) (wn.of (by kernel_rfl) .nil) (fun n {_}=>g_bx N n) (fun _ _=>wbm.zero ..) (fun n {_} v K=>e_bx N n v K) N
theorem e_by (v:p_by.V) (K:KO α):wcK env (ct39 N) (i_bA N) 18611175424 n_by (p_by.mk' v) K=g_by N v K:=Eq.trans (b:=z_by N @wcy.b v K) (by kernel_rfl) (by unfold g_by; rw [wcy.eq])
theorem o_by (N:Nat):wv gd P (i_bA N) n_by (q_by N) :=
 wG hE hP (wlV N) (wn.of (by kernel_rfl) .nil) (wn.of (by kernel_rfl) (.cons (o_bx N) .nil)) (e_by N)
theorem e_bz (n:Nat) (v:p_bz.V) (K:KO α):wbe env (ct39 N) (i_bA N) 1431306240 (wj 1431306240 p_bz (g_bz N n)).run n_bz (p_bz.mk' v) K=g_bz N (n + 1) v K:=Eq.trans (b:=z_bz (fun x0 x1 x2 x3 x4 x5 k0=>wfZ N (fun y0 y1 y2 y3 y4 y5=>wbF N n y0 y1 y2 y3 y4 y5 k0) k0 x0 x1 x2 x3 x4 x5) v K) (by kernel_rfl) (by unfold g_bz z_bz; rw [wbF.succ])
theorem o_bz (N:Nat):wv gd P (i_bA N) n_bz (q_bz N) :=
 wI hE hP (wlV N) (wn.of (by kernel_rfl) (.cons (o_bu N) (.cons (o_bw N) (.cons (o_by N) .nil)))) (fun n {_}=>g_bz N n) (fun _ _=>wbF.zero ..) (fun n {_} v K=>e_bz N n v K) N
noncomputable def p_bA:Pt:=⟨[(.i (.sl (.int .i64))),(.i (.sl (.int .i64)))],[]⟩
noncomputable def z_bA (F:type_of% @wdI) (v:p_bA.V) (K:KF α):Option α:=F N v.1.1 v.1.2.1 (fun o0_0 o0_1=>K (.tuple [(.iv (.sl (.int .i64)) o0_0),(.iv (.sl (.int .i64)) o0_1)]) [])
noncomputable def g_bA (v:p_bA.V) (K:KF α):Option α:=z_bA N @wdI v K
theorem e_bA (v:p_bA.V) (K:KF α):wbB env (ct39 N) (i_bA N) Tryz.f64 (SP.mkL p_bA.slots v.1) (BP.mkL p_bA.store v.2) K=g_bA N v K:=Eq.trans (b:=z_bA N @wdI.b v K) (by kernel_rfl) (by unfold g_bA; rw [wdI.eq])
theorem o_bA (N:Nat):wk gd P 64 (wa false p_bA (g_bA N)) :=
 wh fun v K h=>wJ hE hP (wlV N) Tryz.func64 (by kernel_rfl) (body:=b_bA) (by kernel_rfl) (by kernel_rfl) (wn.of (by kernel_rfl) (.cons (o_bs N) (.cons (o_bt N) (.cons (o_bz N) .nil)))) (loans:=BP.mkL p_bA.store v.2) rfl ((e_bA N v K).trans h)
noncomputable def ct40 (N:Nat):CT:=(64,(wa false p_bA (g_bA N)))::ct39 N
theorem wsF (N:Nat):CTOK gd P (ct40 N):=.cons (o_bA N) (wlV N)

noncomputable def p_bB:Pt:=⟨(.i (.sl (.int .i64)))::(.i (.sl (.int .i64)))::ups 17 ([]),[]⟩
noncomputable def z_bB (F:type_of% (@wbV α 0 0)) (v:p_bB.V) (K:KO α):Option α:=F v.1.1 v.1.2.1 (fun o0_0=>K (.normal ⟨(.iv (.sl (.int .i64)) o0_0)::us 18 ([]),[]⟩))
noncomputable def g_bB (n:Nat) (v:p_bB.V) (K:KO α):Option α:=z_bB (wbV N n) v K
noncomputable def q_bB (N:Nat):Piece:=(wj 5 p_bB (g_bB N N))
noncomputable def i_bC (N:Nat):Fi:={ loans:=0,owns:=true,results:=[.tmp 4],rtys:=[23],blks:=[(0,q_bB N)],regs:=[],masks:=[(0,1)] }
noncomputable def b_bC:Code:=match Tryz.f63.body with | some c=>c | none=>.skip
noncomputable def n_bB:Code:=(.block 0 (.loop (wq b_bC [1,0,0,0])))
theorem e_bB (n:Nat) (v:p_bB.V) (K:KO α):wbe env (ct40 N) (i_bC N) 5 (wj 5 p_bB (g_bB N n)).run n_bB (p_bB.mk' v) K=g_bB N (n + 1) v K:=Eq.trans (b:=z_bB (fun x0 x1 k0=>wgS N (fun y0 y1=>wbV N n y0 y1 k0) k0 x0 x1) v K) (by kernel_rfl) (by unfold g_bB z_bB; rw [wbV.succ])
theorem o_bB (N:Nat):wv gd P (i_bC N) n_bB (q_bB N) :=
 wI hE hP (wsF N) (wn.of (by kernel_rfl) .nil) (fun n {_}=>g_bB N n) (fun _ _=>wbV.zero ..) (fun n {_} v K=>e_bB N n v K) N
noncomputable def p_bC:Pt:=⟨[(.i (.sl (.int .i64))),(.i (.sl (.int .i64)))],[]⟩
noncomputable def z_bC (F:type_of% @wd6) (v:p_bC.V) (K:KF α):Option α:=F N v.1.1 v.1.2.1 (fun o0_0=>K (.iv (.sl (.int .i64)) o0_0) [])
noncomputable def g_bC (v:p_bC.V) (K:KF α):Option α:=z_bC N @wd6 v K
theorem e_bC (v:p_bC.V) (K:KF α):wbB env (ct40 N) (i_bC N) Tryz.f63 (SP.mkL p_bC.slots v.1) (BP.mkL p_bC.store v.2) K=g_bC N v K:=Eq.trans (b:=z_bC N @wd6.b v K) (by kernel_rfl) (by unfold g_bC; rw [wd6.eq])
theorem o_bC (N:Nat):wk gd P 63 (wa false p_bC (g_bC N)) :=
 wh fun v K h=>wJ hE hP (wsF N) Tryz.func63 (by kernel_rfl) (body:=b_bC) (by kernel_rfl) (by kernel_rfl) (wn.of (by kernel_rfl) (.cons (o_bB N) .nil)) (loans:=BP.mkL p_bC.store v.2) rfl ((e_bC N v K).trans h)
noncomputable def ct41 (N:Nat):CT:=(63,(wa false p_bC (g_bC N)))::ct40 N
theorem wtz (N:Nat):CTOK gd P (ct41 N):=.cons (o_bC N) (wsF N)

noncomputable def p_bD:Pt:=⟨(.i .bool)::(.i (.sl (.int .i64)))::(.i (.sl (.int .i64)))::.u::.u::.u::(.p 0 [] 0)::(.i (.sl (.int .i64)))::ups 28 ([]),[(.box 25 (.a [(.i .bool),(.o 1),(.o 2)]) false),(.arr 3 (.int .i64) false),(.arr 3 (.int .i64) false)]⟩
noncomputable def z_bD (F:type_of% @wdm) (v:p_bD.V) (K:KO α):Option α:=F N v.1.1 v.1.2.1 v.1.2.2.1 v.1.2.2.2.2.2.2.2.1 v.2.1.1 v.2.2.1 v.2.2.2.1 (fun o0_0 o0_1 o0_2 o0_3 o0_4 o0_5=>K (.normal ⟨(.iv .bool o0_0)::(.iv (.sl (.int .i64)) o0_1)::(.iv (.sl (.int .i64)) o0_2)::U::U::U::(.lp 0 [] 0)::us 29 ([]),[(.box 25 (.agg [(.iv .bool o0_3),(.own 1),(.own 2)]) false),(.arr 3 (.int .i64) o0_4 false),(.arr 3 (.int .i64) o0_5 false)]⟩))
noncomputable def g_bD (v:p_bD.V) (K:KO α):Option α:=z_bD N @wdm v K
noncomputable def q_bD (N:Nat):Piece:=(wj 20501 p_bD (g_bD N))
noncomputable def i_bE (N:Nat):Fi:={ loans:=0,owns:=true,results:=[.cell 6 25],rtys:=[25],blks:=[],regs:=[(2,q_bD N)],masks:=[] }
noncomputable def b_bE:Code:=match Tryz.f84.body with | some c=>c | none=>.skip
noncomputable def n_bD:Code:=(.seq (wq b_bE [1,1,0,0]) (wq b_bE [1,1,0,1]))
theorem e_bD (v:p_bD.V) (K:KO α):wcK env (ct41 N) (i_bE N) 4117 n_bD (p_bD.mk' v) K=g_bD N v K:=Eq.trans (b:=z_bD N @wdm.b v K) (by kernel_rfl) (by unfold g_bD; rw [wdm.eq])
theorem o_bD (N:Nat):wv gd P (i_bE N) n_bD (q_bD N) :=
 wG hE hP (wtz N) (wn.of (by kernel_rfl) .nil) (wn.of (by kernel_rfl) .nil) (e_bD N)
noncomputable def p_bE:Pt:=⟨[(.i .bool),(.i (.sl (.int .i64))),(.i (.sl (.int .i64)))],[]⟩
noncomputable def z_bE (F:type_of% @wep) (v:p_bE.V) (K:KF α):Option α:=F N v.1.1 v.1.2.1 v.1.2.2.1 (fun o0_0=>K (.iv (.pair .bool (.pair (.sl (.int .i64)) (.pair (.sl (.int .i64)) .unit))) o0_0) [])
noncomputable def g_bE (v:p_bE.V) (K:KF α):Option α:=z_bE N @wep v K
theorem e_bE (v:p_bE.V) (K:KF α):wbB env (ct41 N) (i_bE N) Tryz.f84 (SP.mkL p_bE.slots v.1) (BP.mkL p_bE.store v.2) K=g_bE N v K:=Eq.trans (b:=z_bE N @wep.b v K) (by kernel_rfl) (by unfold g_bE; rw [wep.eq])
theorem o_bE (N:Nat):wk gd P 84 (wa false p_bE (g_bE N)) :=
 wh fun v K h=>wJ hE hP (wtz N) Tryz.func84 (by kernel_rfl) (body:=b_bE) (by kernel_rfl) (by kernel_rfl) (wn.of (by kernel_rfl) (.cons (o_bD N) .nil)) (loans:=BP.mkL p_bE.store v.2) rfl ((e_bE N v K).trans h)
noncomputable def ct42 (N:Nat):CT:=(84,(wa false p_bE (g_bE N)))::ct41 N
theorem wuy (N:Nat):CTOK gd P (ct42 N):=.cons (o_bE N) (wtz N)

noncomputable def i_bF (N:Nat):Fi:={ loans:=0,owns:=true,results:=[.cell 2 25,.tmp 3],rtys:=[25,4],blks:=[],regs:=[],masks:=[] }
noncomputable def b_bF:Code:=match Tryz.f39.body with | some c=>c | none=>.skip
noncomputable def p_bF:Pt:=⟨[(.i .str)],[]⟩
noncomputable def z_bF (F:type_of% @wd9) (v:p_bF.V) (K:KF α):Option α:=F N v.1.1 (fun o0_0 o0_1 o0_2 o0_3=>K (.tuple [(.agg [(.iv .bool o0_0),(.own 0),(.own 1)]),(.iv .bool o0_1)]) [(.arr 3 (.int .i64) o0_2 false),(.arr 3 (.int .i64) o0_3 false)])
noncomputable def g_bF (v:p_bF.V) (K:KF α):Option α:=z_bF N @wd9 v K
theorem e_bF (v:p_bF.V) (K:KF α):wbB env (ct42 N) (i_bF N) Tryz.f39 (SP.mkL p_bF.slots v.1) (BP.mkL p_bF.store v.2) K=g_bF N v K:=Eq.trans (b:=z_bF N @wd9.b v K) (by kernel_rfl) (by unfold g_bF; rw [wd9.eq])
theorem o_bF (N:Nat):wk gd P 39 (wa false p_bF (g_bF N)) :=
 wh fun v K h=>wJ hE hP (wuy N) Tryz.func39 (by kernel_rfl) (body:=b_bF) (by kernel_rfl) (by kernel_rfl) (wn.of (by kernel_rfl) .nil) (loans:=BP.mkL p_bF.store v.2) rfl ((e_bF N v K).trans h)
noncomputable def ct43 (N:Nat):CT:=(39,(wa false p_bF (g_bF N)))::ct42 N
theorem wuk (N:Nat):CTOK gd P (ct43 N):=.cons (o_bF N) (wuy N)

noncomputable def i_bG (N:Nat):Fi:={ loans:=0,owns:=true,results:=[.cell 2 111,.tmp 3],rtys:=[111,4],blks:=[],regs:=[],masks:=[] }
noncomputable def b_bG:Code:=match Tryz.f88.body with | some c=>c | none=>.skip
noncomputable def p_bG:Pt:=⟨[(.i (.int .i64))],[]⟩
noncomputable def z_bG (F:type_of% @wcP) (v:p_bG.V) (K:KF α):Option α:=F N v.1.1 (fun o0_0 o0_1=>K (.tuple [(.iv (.pair (.int .i64) (.pair (.int .i64) (.pair (.int .i64) (.pair (.int .i64) .unit)))) o0_0),(.iv .bool o0_1)]) [])
noncomputable def g_bG (v:p_bG.V) (K:KF α):Option α:=z_bG N @wcP v K
theorem e_bG (v:p_bG.V) (K:KF α):wbB env (ct43 N) (i_bG N) Tryz.f88 (SP.mkL p_bG.slots v.1) (BP.mkL p_bG.store v.2) K=g_bG N v K:=Eq.trans (b:=z_bG N @wcP.b v K) (by kernel_rfl) (by unfold g_bG; rw [wcP.eq])
theorem o_bG (N:Nat):wk gd P 88 (wa false p_bG (g_bG N)) :=
 wh fun v K h=>wJ hE hP (wuk N) Tryz.func88 (by kernel_rfl) (body:=b_bG) (by kernel_rfl) (by kernel_rfl) (wn.of (by kernel_rfl) .nil) (loans:=BP.mkL p_bG.store v.2) rfl ((e_bG N v K).trans h)
noncomputable def ct44 (N:Nat):CT:=(88,(wa false p_bG (g_bG N)))::ct43 N
theorem wuj (N:Nat):CTOK gd P (ct44 N):=.cons (o_bG N) (wuk N)

noncomputable def i_bH (N:Nat):Fi:={ loans:=0,owns:=true,results:=[.tmp 6],rtys:=[4],blks:=[],regs:=[],masks:=[] }
noncomputable def b_bH:Code:=match Tryz.f99.body with | some c=>c | none=>.skip
noncomputable def p_bH:Pt:=⟨[(.i (.int .i64)),(.i (.int .i64)),(.i (.int .i64))],[]⟩
noncomputable def z_bH (F:type_of% @wgj) (v:p_bH.V) (K:KF α):Option α:=F N v.1.1 v.1.2.1 v.1.2.2.1 (fun o0_0=>K (.iv .bool o0_0) [])
noncomputable def g_bH (v:p_bH.V) (K:KF α):Option α:=z_bH N @wgj v K
theorem e_bH (v:p_bH.V) (K:KF α):wbB env (ct44 N) (i_bH N) Tryz.f99 (SP.mkL p_bH.slots v.1) (BP.mkL p_bH.store v.2) K=g_bH N v K:=Eq.trans (b:=z_bH N @wgj.b v K) (by kernel_rfl) (by unfold g_bH; rw [wgj.eq])
theorem o_bH (N:Nat):wk gd P 99 (wa false p_bH (g_bH N)) :=
 wh fun v K h=>wJ hE hP (wuj N) Tryz.func99 (by kernel_rfl) (body:=b_bH) (by kernel_rfl) (by kernel_rfl) (wn.of (by kernel_rfl) .nil) (loans:=BP.mkL p_bH.store v.2) rfl ((e_bH N v K).trans h)
noncomputable def ct45 (N:Nat):CT:=(99,(wa false p_bH (g_bH N)))::ct44 N
theorem wuW (N:Nat):CTOK gd P (ct45 N):=.cons (o_bH N) (wuj N)

noncomputable def i_bI (N:Nat):Fi:={ loans:=0,owns:=true,results:=[.tmp 2],rtys:=[4],blks:=[],regs:=[],masks:=[] }
noncomputable def b_bI:Code:=match Tryz.f138.body with | some c=>c | none=>.skip
noncomputable def p_bI:Pt:=⟨[(.i (.int .i64))],[]⟩
noncomputable def z_bI (F:type_of% @wex) (v:p_bI.V) (K:KF α):Option α:=F N v.1.1 (fun o0_0=>K (.iv .bool o0_0) [])
noncomputable def g_bI (v:p_bI.V) (K:KF α):Option α:=z_bI N @wex v K
theorem e_bI (v:p_bI.V) (K:KF α):wbB env (ct45 N) (i_bI N) Tryz.f138 (SP.mkL p_bI.slots v.1) (BP.mkL p_bI.store v.2) K=g_bI N v K:=Eq.trans (b:=z_bI N @wex.b v K) (by kernel_rfl) (by unfold g_bI; rw [wex.eq])
theorem o_bI (N:Nat):wk gd P 138 (wa false p_bI (g_bI N)) :=
 wh fun v K h=>wJ hE hP (wuW N) Tryz.func138 (by kernel_rfl) (body:=b_bI) (by kernel_rfl) (by kernel_rfl) (wn.of (by kernel_rfl) .nil) (loans:=BP.mkL p_bI.store v.2) rfl ((e_bI N v K).trans h)
noncomputable def ct46 (N:Nat):CT:=(138,(wa false p_bI (g_bI N)))::ct45 N
theorem ws0 (N:Nat):CTOK gd P (ct46 N):=.cons (o_bI N) (wuW N)

noncomputable def p_bJ:Pt:=⟨(.i (.sl (.int .i64)))::(.f 138 [])::ups 5 ((.i (.int .i64))::(.i (.int .i64))::ups 10 ([])),[]⟩
noncomputable def z_bJ (F:type_of% (@we α 0 0)) (v:p_bJ.V) (K:KO α):Option α:=F v.1.1 (nx 5 v.1.2.2).1 (nx 5 v.1.2.2).2.1 (fun o0_0=>K (.ret (.iv (.int .i64) o0_0) [])) (K (.normal ⟨us 19 ([]),[]⟩))
noncomputable def g_bJ (n:Nat) (v:p_bJ.V) (K:KO α):Option α:=z_bJ (we N n) v K
noncomputable def q_bJ (N:Nat):Piece:=(wj 81925 p_bJ (g_bJ N N))
noncomputable def i_bK (N:Nat):Fi:={ loans:=0,owns:=true,results:=[.tmp 4],rtys:=[3],blks:=[(0,q_bJ N)],regs:=[],masks:=[(0,0)] }
noncomputable def b_bK:Code:=match Tryz.f164.body with | some c=>c | none=>.skip
noncomputable def n_bJ:Code:=(.block 0 (.loop (wq b_bK [1,0,1,0,0])))
theorem e_bJ (n:Nat) (v:p_bJ.V) (K:KO α):wbe env (ct46 N) (i_bK N) 81925 (wj 81925 p_bJ (g_bJ N n)).run n_bJ (p_bJ.mk' v) K=g_bJ N (n + 1) v K:=Eq.trans (b:=z_bJ (fun x0 x1 x2 k0 k1=>wbT N (fun y0 y1 y2=>we N n y0 y1 y2 k0 k1) k0 k1 x0 x1 x2) v K) (by kernel_rfl) (by unfold g_bJ z_bJ; rw [we.succ])
theorem o_bJ (N:Nat):wv gd P (i_bK N) n_bJ (q_bJ N) :=
 wI hE hP (ws0 N) (wn.of (by kernel_rfl) .nil) (fun n {_}=>g_bJ N n) (fun _ _=>we.zero ..) (fun n {_} v K=>e_bJ N n v K) N
noncomputable def p_bK:Pt:=⟨[(.i (.sl (.int .i64))),(.f 138 [])],[]⟩
noncomputable def z_bK (F:type_of% @wz) (v:p_bK.V) (K:KF α):Option α:=F N v.1.1 (fun o0_0=>K (.iv (.int .i64) o0_0) [])
noncomputable def g_bK (v:p_bK.V) (K:KF α):Option α:=z_bK N @wz v K
theorem e_bK (v:p_bK.V) (K:KF α):wbB env (ct46 N) (i_bK N) Tryz.f164 (SP.mkL p_bK.slots v.1) (BP.mkL p_bK.store v.2) K=g_bK N v K:=Eq.trans (b:=z_bK N @wz.b v K) (by kernel_rfl) (by unfold g_bK; rw [wz.eq])
theorem o_bK (N:Nat):wk gd P 164 (wa false p_bK (g_bK N)) :=
 wh fun v K h=>wJ hE hP (ws0 N) Tryz.func164 (by kernel_rfl) (body:=b_bK) (by kernel_rfl) (by kernel_rfl) (wn.of (by kernel_rfl) (.cons (o_bJ N) .nil)) (loans:=BP.mkL p_bK.store v.2) rfl ((e_bK N v K).trans h)
noncomputable def ct47 (N:Nat):CT:=(164,(wa false p_bK (g_bK N)))::ct46 N
theorem wuw (N:Nat):CTOK gd P (ct47 N):=.cons (o_bK N) (ws0 N)

noncomputable def i_bL (N:Nat):Fi:={ loans:=0,owns:=true,results:=[.tmp 4],rtys:=[4],blks:=[],regs:=[],masks:=[] }
noncomputable def b_bL:Code:=match Tryz.f137.body with | some c=>c | none=>.skip
noncomputable def p_bL:Pt:=⟨[(.i (.sl (.int .i64))),(.f 138 [])],[]⟩
noncomputable def z_bL (F:type_of% @wo) (v:p_bL.V) (K:KF α):Option α:=F N v.1.1 (fun o0_0=>K (.iv .bool o0_0) [])
noncomputable def g_bL (v:p_bL.V) (K:KF α):Option α:=z_bL N @wo v K
theorem e_bL (v:p_bL.V) (K:KF α):wbB env (ct47 N) (i_bL N) Tryz.f137 (SP.mkL p_bL.slots v.1) (BP.mkL p_bL.store v.2) K=g_bL N v K:=Eq.trans (b:=z_bL N @wo.b v K) (by kernel_rfl) (by unfold g_bL; rw [wo.eq])
theorem o_bL (N:Nat):wk gd P 137 (wa false p_bL (g_bL N)) :=
 wh fun v K h=>wJ hE hP (wuw N) Tryz.func137 (by kernel_rfl) (body:=b_bL) (by kernel_rfl) (by kernel_rfl) (wn.of (by kernel_rfl) .nil) (loans:=BP.mkL p_bL.store v.2) rfl ((e_bL N v K).trans h)
noncomputable def ct48 (N:Nat):CT:=(137,(wa false p_bL (g_bL N)))::ct47 N
theorem wtW (N:Nat):CTOK gd P (ct48 N):=.cons (o_bL N) (wuw N)

noncomputable def i_bM (N:Nat):Fi:={ loans:=0,owns:=true,results:=[.tmp 2],rtys:=[4],blks:=[],regs:=[],masks:=[] }
noncomputable def b_bM:Code:=match Tryz.f104.body with | some c=>c | none=>.skip
noncomputable def p_bM:Pt:=⟨[(.i (.sl (.int .i64)))],[]⟩
noncomputable def z_bM (F:type_of% @wfc) (v:p_bM.V) (K:KF α):Option α:=F N v.1.1 (fun o0_0=>K (.iv .bool o0_0) [])
noncomputable def g_bM (v:p_bM.V) (K:KF α):Option α:=z_bM N @wfc v K
theorem e_bM (v:p_bM.V) (K:KF α):wbB env (ct48 N) (i_bM N) Tryz.f104 (SP.mkL p_bM.slots v.1) (BP.mkL p_bM.store v.2) K=g_bM N v K:=Eq.trans (b:=z_bM N @wfc.b v K) (by kernel_rfl) (by unfold g_bM; rw [wfc.eq])
theorem o_bM (N:Nat):wk gd P 104 (wa false p_bM (g_bM N)) :=
 wh fun v K h=>wJ hE hP (wtW N) Tryz.func104 (by kernel_rfl) (body:=b_bM) (by kernel_rfl) (by kernel_rfl) (wn.of (by kernel_rfl) .nil) (loans:=BP.mkL p_bM.store v.2) rfl ((e_bM N v K).trans h)
noncomputable def ct49 (N:Nat):CT:=(104,(wa false p_bM (g_bM N)))::ct48 N
theorem wt7 (N:Nat):CTOK gd P (ct49 N):=.cons (o_bM N) (wtW N)

noncomputable def i_bN (N:Nat):Fi:={ loans:=0,owns:=true,results:=[.tmp 2],rtys:=[4],blks:=[],regs:=[],masks:=[] }
noncomputable def b_bN:Code:=match Tryz.f103.body with | some c=>c | none=>.skip
noncomputable def p_bN:Pt:=⟨[(.i (.sl (.int .i64)))],[]⟩
noncomputable def z_bN (F:type_of% @we1) (v:p_bN.V) (K:KF α):Option α:=F N v.1.1 (fun o0_0=>K (.iv .bool o0_0) [])
noncomputable def g_bN (v:p_bN.V) (K:KF α):Option α:=z_bN N @we1 v K
theorem e_bN (v:p_bN.V) (K:KF α):wbB env (ct49 N) (i_bN N) Tryz.f103 (SP.mkL p_bN.slots v.1) (BP.mkL p_bN.store v.2) K=g_bN N v K:=Eq.trans (b:=z_bN N @we1.b v K) (by kernel_rfl) (by unfold g_bN; rw [we1.eq])
theorem o_bN (N:Nat):wk gd P 103 (wa false p_bN (g_bN N)) :=
 wh fun v K h=>wJ hE hP (wt7 N) Tryz.func103 (by kernel_rfl) (body:=b_bN) (by kernel_rfl) (by kernel_rfl) (wn.of (by kernel_rfl) .nil) (loans:=BP.mkL p_bN.store v.2) rfl ((e_bN N v K).trans h)
noncomputable def ct50 (N:Nat):CT:=(103,(wa false p_bN (g_bN N)))::ct49 N
theorem ws7 (N:Nat):CTOK gd P (ct50 N):=.cons (o_bN N) (wt7 N)

noncomputable def p_bO:Pt:=⟨(.i (.sl (.sl (.int .i64))))::(.f 103 [])::ups 5 ((.i (.int .i64))::(.i (.int .i64))::ups 10 ([])),[]⟩
noncomputable def z_bO (F:type_of% (@wg α 0 0)) (v:p_bO.V) (K:KO α):Option α:=F v.1.1 (nx 5 v.1.2.2).1 (nx 5 v.1.2.2).2.1 (fun o0_0=>K (.ret (.iv (.int .i64) o0_0) [])) (K (.normal ⟨us 19 ([]),[]⟩))
noncomputable def g_bO (n:Nat) (v:p_bO.V) (K:KO α):Option α:=z_bO (wg N n) v K
noncomputable def q_bO (N:Nat):Piece:=(wj 81925 p_bO (g_bO N N))
noncomputable def i_bP (N:Nat):Fi:={ loans:=0,owns:=true,results:=[.tmp 4],rtys:=[3],blks:=[(0,q_bO N)],regs:=[],masks:=[(0,0)] }
noncomputable def b_bP:Code:=match Tryz.f136.body with | some c=>c | none=>.skip
noncomputable def n_bO:Code:=(.block 0 (.loop (wq b_bP [1,0,1,0,0])))
theorem e_bO (n:Nat) (v:p_bO.V) (K:KO α):wbe env (ct50 N) (i_bP N) 81925 (wj 81925 p_bO (g_bO N n)).run n_bO (p_bO.mk' v) K=g_bO N (n + 1) v K:=Eq.trans (b:=z_bO (fun x0 x1 x2 k0 k1=>wbY N (fun y0 y1 y2=>wg N n y0 y1 y2 k0 k1) k0 k1 x0 x1 x2) v K) (by kernel_rfl) (by unfold g_bO z_bO; rw [wg.succ])
theorem o_bO (N:Nat):wv gd P (i_bP N) n_bO (q_bO N) :=
 wI hE hP (ws7 N) (wn.of (by kernel_rfl) .nil) (fun n {_}=>g_bO N n) (fun _ _=>wg.zero ..) (fun n {_} v K=>e_bO N n v K) N
noncomputable def p_bP:Pt:=⟨[(.i (.sl (.sl (.int .i64)))),(.f 103 [])],[]⟩
noncomputable def z_bP (F:type_of% @wA) (v:p_bP.V) (K:KF α):Option α:=F N v.1.1 (fun o0_0=>K (.iv (.int .i64) o0_0) [])
noncomputable def g_bP (v:p_bP.V) (K:KF α):Option α:=z_bP N @wA v K
theorem e_bP (v:p_bP.V) (K:KF α):wbB env (ct50 N) (i_bP N) Tryz.f136 (SP.mkL p_bP.slots v.1) (BP.mkL p_bP.store v.2) K=g_bP N v K:=Eq.trans (b:=z_bP N @wA.b v K) (by kernel_rfl) (by unfold g_bP; rw [wA.eq])
theorem o_bP (N:Nat):wk gd P 136 (wa false p_bP (g_bP N)) :=
 wh fun v K h=>wJ hE hP (ws7 N) Tryz.func136 (by kernel_rfl) (body:=b_bP) (by kernel_rfl) (by kernel_rfl) (wn.of (by kernel_rfl) (.cons (o_bO N) .nil)) (loans:=BP.mkL p_bP.store v.2) rfl ((e_bP N v K).trans h)
noncomputable def ct51 (N:Nat):CT:=(136,(wa false p_bP (g_bP N)))::ct50 N
theorem wuS (N:Nat):CTOK gd P (ct51 N):=.cons (o_bP N) (ws7 N)

noncomputable def i_bQ (N:Nat):Fi:={ loans:=0,owns:=true,results:=[.tmp 4],rtys:=[4],blks:=[],regs:=[],masks:=[] }
noncomputable def b_bQ:Code:=match Tryz.f102.body with | some c=>c | none=>.skip
noncomputable def p_bQ:Pt:=⟨[(.i (.sl (.sl (.int .i64)))),(.f 103 [])],[]⟩
noncomputable def z_bQ (F:type_of% @ww) (v:p_bQ.V) (K:KF α):Option α:=F N v.1.1 (fun o0_0=>K (.iv .bool o0_0) [])
noncomputable def g_bQ (v:p_bQ.V) (K:KF α):Option α:=z_bQ N @ww v K
theorem e_bQ (v:p_bQ.V) (K:KF α):wbB env (ct51 N) (i_bQ N) Tryz.f102 (SP.mkL p_bQ.slots v.1) (BP.mkL p_bQ.store v.2) K=g_bQ N v K:=Eq.trans (b:=z_bQ N @ww.b v K) (by kernel_rfl) (by unfold g_bQ; rw [ww.eq])
theorem o_bQ (N:Nat):wk gd P 102 (wa false p_bQ (g_bQ N)) :=
 wh fun v K h=>wJ hE hP (wuS N) Tryz.func102 (by kernel_rfl) (body:=b_bQ) (by kernel_rfl) (by kernel_rfl) (wn.of (by kernel_rfl) .nil) (loans:=BP.mkL p_bQ.store v.2) rfl ((e_bQ N v K).trans h)
noncomputable def ct52 (N:Nat):CT:=(102,(wa false p_bQ (g_bQ N)))::ct51 N
theorem wuI (N:Nat):CTOK gd P (ct52 N):=.cons (o_bQ N) (wuS N)

noncomputable def i_bR (N:Nat):Fi:={ loans:=0,owns:=true,results:=[.tmp 2],rtys:=[4],blks:=[],regs:=[],masks:=[] }
noncomputable def b_bR:Code:=match Tryz.f62.body with | some c=>c | none=>.skip
noncomputable def p_bR:Pt:=⟨[(.i (.sl (.sl (.int .i64))))],[]⟩
noncomputable def z_bR (F:type_of% @wfw) (v:p_bR.V) (K:KF α):Option α:=F N v.1.1 (fun o0_0=>K (.iv .bool o0_0) [])
noncomputable def g_bR (v:p_bR.V) (K:KF α):Option α:=z_bR N @wfw v K
theorem e_bR (v:p_bR.V) (K:KF α):wbB env (ct52 N) (i_bR N) Tryz.f62 (SP.mkL p_bR.slots v.1) (BP.mkL p_bR.store v.2) K=g_bR N v K:=Eq.trans (b:=z_bR N @wfw.b v K) (by kernel_rfl) (by unfold g_bR; rw [wfw.eq])
theorem o_bR (N:Nat):wk gd P 62 (wa false p_bR (g_bR N)) :=
 wh fun v K h=>wJ hE hP (wuI N) Tryz.func62 (by kernel_rfl) (body:=b_bR) (by kernel_rfl) (by kernel_rfl) (wn.of (by kernel_rfl) .nil) (loans:=BP.mkL p_bR.store v.2) rfl ((e_bR N v K).trans h)
noncomputable def ct53 (N:Nat):CT:=(62,(wa false p_bR (g_bR N)))::ct52 N
theorem wtO (N:Nat):CTOK gd P (ct53 N):=.cons (o_bR N) (wuI N)

noncomputable def i_bS (N:Nat):Fi:={ loans:=0,owns:=true,results:=[.tmp 2],rtys:=[4],blks:=[],regs:=[],masks:=[] }
noncomputable def b_bS:Code:=match Tryz.f25.body with | some c=>c | none=>.skip
noncomputable def p_bS:Pt:=⟨[(.i (.pair .bool (.pair (.sl (.int .i64)) (.pair (.sl (.int .i64)) .unit))))],[]⟩
noncomputable def z_bS (F:type_of% @wel) (v:p_bS.V) (K:KF α):Option α:=F N v.1.1 (fun o0_0=>K (.iv .bool o0_0) [])
noncomputable def g_bS (v:p_bS.V) (K:KF α):Option α:=z_bS N @wel v K
theorem e_bS (v:p_bS.V) (K:KF α):wbB env (ct53 N) (i_bS N) Tryz.f25 (SP.mkL p_bS.slots v.1) (BP.mkL p_bS.store v.2) K=g_bS N v K:=Eq.trans (b:=z_bS N @wel.b v K) (by kernel_rfl) (by unfold g_bS; rw [wel.eq])
theorem o_bS (N:Nat):wk gd P 25 (wa false p_bS (g_bS N)) :=
 wh fun v K h=>wJ hE hP (wtO N) Tryz.func25 (by kernel_rfl) (body:=b_bS) (by kernel_rfl) (by kernel_rfl) (wn.of (by kernel_rfl) .nil) (loans:=BP.mkL p_bS.store v.2) rfl ((e_bS N v K).trans h)
noncomputable def ct54 (N:Nat):CT:=(25,(wa false p_bS (g_bS N)))::ct53 N
theorem wub (N:Nat):CTOK gd P (ct54 N):=.cons (o_bS N) (wtO N)

noncomputable def i_bT (N:Nat):Fi:={ loans:=0,owns:=true,results:=[.tmp 4],rtys:=[4],blks:=[],regs:=[],masks:=[] }
noncomputable def b_bT:Code:=match Tryz.f56.body with | some c=>c | none=>.skip
noncomputable def p_bT:Pt:=⟨[(.i (.int .i64)),(.i (.pair .bool (.pair (.sl (.int .i64)) (.pair (.sl (.int .i64)) .unit))))],[]⟩
noncomputable def z_bT (F:type_of% @web) (v:p_bT.V) (K:KF α):Option α:=F N v.1.1 v.1.2.1 (fun o0_0=>K (.iv .bool o0_0) [])
noncomputable def g_bT (v:p_bT.V) (K:KF α):Option α:=z_bT N @web v K
theorem e_bT (v:p_bT.V) (K:KF α):wbB env (ct54 N) (i_bT N) Tryz.f56 (SP.mkL p_bT.slots v.1) (BP.mkL p_bT.store v.2) K=g_bT N v K:=Eq.trans (b:=z_bT N @web.b v K) (by kernel_rfl) (by unfold g_bT; rw [web.eq])
theorem o_bT (N:Nat):wk gd P 56 (wa false p_bT (g_bT N)) :=
 wh fun v K h=>wJ hE hP (wub N) Tryz.func56 (by kernel_rfl) (body:=b_bT) (by kernel_rfl) (by kernel_rfl) (wn.of (by kernel_rfl) .nil) (loans:=BP.mkL p_bT.store v.2) rfl ((e_bT N v K).trans h)
noncomputable def ct55 (N:Nat):CT:=(56,(wa false p_bT (g_bT N)))::ct54 N
theorem wuN (N:Nat):CTOK gd P (ct55 N):=.cons (o_bT N) (wub N)

noncomputable def i_bU (N:Nat):Fi:={ loans:=0,owns:=true,results:=[.tmp 2],rtys:=[3],blks:=[],regs:=[],masks:=[] }
noncomputable def b_bU:Code:=match Tryz.f132.body with | some c=>c | none=>.skip
noncomputable def p_bU:Pt:=⟨[(.i (.sl (.int .i64)))],[]⟩
noncomputable def z_bU (F:type_of% @wdN) (v:p_bU.V) (K:KF α):Option α:=F N v.1.1 (fun o0_0=>K (.iv (.int .i64) o0_0) [])
noncomputable def g_bU (v:p_bU.V) (K:KF α):Option α:=z_bU N @wdN v K
theorem e_bU (v:p_bU.V) (K:KF α):wbB env (ct55 N) (i_bU N) Tryz.f132 (SP.mkL p_bU.slots v.1) (BP.mkL p_bU.store v.2) K=g_bU N v K:=Eq.trans (b:=z_bU N @wdN.b v K) (by kernel_rfl) (by unfold g_bU; rw [wdN.eq])
theorem o_bU (N:Nat):wk gd P 132 (wa false p_bU (g_bU N)) :=
 wh fun v K h=>wJ hE hP (wuN N) Tryz.func132 (by kernel_rfl) (body:=b_bU) (by kernel_rfl) (by kernel_rfl) (wn.of (by kernel_rfl) .nil) (loans:=BP.mkL p_bU.store v.2) rfl ((e_bU N v K).trans h)
noncomputable def ct56 (N:Nat):CT:=(132,(wa false p_bU (g_bU N)))::ct55 N
theorem wvd (N:Nat):CTOK gd P (ct56 N):=.cons (o_bU N) (wuN N)

noncomputable def p_bV:Pt:=⟨[.i (.int .u64)],[]⟩
noncomputable def g_bV (N:Nat) {α:Type} (v:p_bV.V) (K:HV→List Blk→Option α):Option α:=wC N v.1.1 (fun x=>K (.iv (.int .i64) x) [])
theorem o_bV (N:Nat):wk gd P 158 (wa false p_bV (g_bV N)) :=
 wos (gd:=gd) lays29 (by kernel_rfl) Tryz.func158 (by kernel_rfl) (by kernel_rfl) (by kernel_rfl) (fun w h=>wqL (.head _) h) N
noncomputable def ct57 (N:Nat):CT:=(158,(wa false p_bV (g_bV N)))::ct56 N
theorem wro (N:Nat):CTOK gd P (ct57 N):=.cons (o_bV N) (wvd N)

noncomputable def p_bW:Pt:=⟨.u::.u::.u::(.p 0 [] 0)::.u::.u::(.p 1 [] 0)::.u::.u::(.i (.int .u64))::(.i (.int .i64))::(.i (.int .i64))::.u::.u::(.i (.int .i64))::ups 88 ([]),[(.box 116 (.i (.pair .bool (.pair (.int .u64) (.pair (.int .i64) .unit)))) false),(.box 111 (.i (.pair (.int .i64) (.pair (.int .i64) (.pair (.int .i64) (.pair (.int .i64) .unit))))) false)]⟩
noncomputable def z_bW (F:type_of% @wcS) (v:p_bW.V) (K:KO α):Option α:=F N v.1.2.2.2.2.2.2.2.2.2.1 v.1.2.2.2.2.2.2.2.2.2.2.1 v.1.2.2.2.2.2.2.2.2.2.2.2.1 v.1.2.2.2.2.2.2.2.2.2.2.2.2.2.2.1 v.2.1 v.2.2.1 (fun o0_0 o0_1=>K (.normal ⟨U::U::U::(.lp 0 [] 0)::us 9 ((.iv (.int .i64) o0_0)::us 89 ([])),[(.box 116 (.iv (.pair .bool (.pair (.int .u64) (.pair (.int .i64) .unit))) o0_1) false)]⟩))
noncomputable def g_bW (v:p_bW.V) (K:KO α):Option α:=z_bW N @wcS v K
noncomputable def p_bX:Pt:=⟨.u::.u::.u::(.p 0 [] 0)::ups 9 ((.i (.int .i64))::ups 89 ([])),[(.box 116 (.i (.pair .bool (.pair (.int .u64) (.pair (.int .i64) .unit)))) false)]⟩
noncomputable def z_bX (F:type_of% @wda) (v:p_bX.V) (K:KO α):Option α:=F N (nx 9 v.1.2.2.2.2).1 v.2.1 (fun o0_0=>K (.normal ⟨us 13 ((.iv (.int .i64) o0_0)::us 89 ([])),[]⟩))
noncomputable def g_bX (v:p_bX.V) (K:KO α):Option α:=z_bX N @wda v K
noncomputable def q_bW (N:Nat):Piece:=(wj 273944640 p_bW (g_bW N))
noncomputable def q_bX (N:Nat):Piece:=(wj 67108928 p_bX (g_bX N))
noncomputable def i_bY (N:Nat):Fi:={ loans:=0,owns:=true,results:=[.tmp 4,.tmp 5],rtys:=[3,4],blks:=[],regs:=[(14,q_bW N),(17,q_bX N)],masks:=[] }
noncomputable def b_bY:Code:=match Tryz.f133.body with | some c=>c | none=>.skip
noncomputable def n_bW:Code:=(.seq (wq b_bY [1,1,1,1,1,1,1,1,1,0,1,0]) (wq b_bY [1,1,1,1,1,1,1,1,1,0,1,1]))
noncomputable def n_bX:Code:=(.seq (wq b_bY [1,1,1,1,1,1,1,1,1,1,0,0]) (wq b_bY [1,1,1,1,1,1,1,1,1,1,0,1]))
theorem e_bW (v:p_bW.V) (K:KO α):wcK env (ct57 N) (i_bY N) 67108928 n_bW (p_bW.mk' v) K=g_bW N v K:=Eq.trans (b:=z_bW N @wcS.b v K) (by kernel_rfl) (by unfold g_bW; rw [wcS.eq])
theorem o_bW (N:Nat):wv gd P (i_bY N) n_bW (q_bW N) :=
 wG hE hP (wro N) (wn.of (by kernel_rfl) .nil) (wn.of (by kernel_rfl) .nil) (e_bW N)
theorem e_bX (v:p_bX.V) (K:KO α):wcK env (ct57 N) (i_bY N) 67108864 n_bX (p_bX.mk' v) K=g_bX N v K:=Eq.trans (b:=z_bX N @wda.b v K) (by kernel_rfl) (by unfold g_bX; rw [wda.eq])
theorem o_bX (N:Nat):wv gd P (i_bY N) n_bX (q_bX N) :=
 wG hE hP (wro N) (wn.of (by kernel_rfl) .nil) (wn.of (by kernel_rfl) .nil) (e_bX N)
noncomputable def p_bY:Pt:=⟨[(.i (.int .i64)),(.i (.pair .bool (.pair (.int .u64) (.pair (.int .i64) .unit))))],[]⟩
noncomputable def z_bY (F:type_of% @wdH) (v:p_bY.V) (K:KF α):Option α:=F N v.1.1 v.1.2.1 (fun o0_0 o0_1=>K (.tuple [(.iv (.int .i64) o0_0),(.iv .bool o0_1)]) [])
noncomputable def g_bY (v:p_bY.V) (K:KF α):Option α:=z_bY N @wdH v K
theorem e_bY (v:p_bY.V) (K:KF α):wbB env (ct57 N) (i_bY N) Tryz.f133 (SP.mkL p_bY.slots v.1) (BP.mkL p_bY.store v.2) K=g_bY N v K:=Eq.trans (b:=z_bY N @wdH.b v K) (by kernel_rfl) (by unfold g_bY; rw [wdH.eq])
theorem o_bY (N:Nat):wk gd P 133 (wa false p_bY (g_bY N)) :=
 wh fun v K h=>wJ hE hP (wro N) Tryz.func133 (by kernel_rfl) (body:=b_bY) (by kernel_rfl) (by kernel_rfl) (wn.of (by kernel_rfl) (.cons (o_bW N) (.cons (o_bX N) .nil))) (loans:=BP.mkL p_bY.store v.2) rfl ((e_bY N v K).trans h)
noncomputable def ct58 (N:Nat):CT:=(133,(wa false p_bY (g_bY N)))::ct57 N
theorem wq4 (N:Nat):CTOK gd P (ct58 N):=.cons (o_bY N) (wro N)

noncomputable def p_bZ:Pt:=⟨(.i (.int .i64))::ups 5 ((.p 0 [] 0)::.u::(.i (.int .i64))::(.i (.int .i64))::(.i (.sl (.int .i64)))::(.i (.sl (.int .i64)))::ups 100 ([])),[(.box 111 (.i (.pair (.int .i64) (.pair (.int .i64) (.pair (.int .i64) (.pair (.int .i64) .unit))))) false)]⟩
noncomputable def z_bZ (F:type_of% @wcD) (v:p_bZ.V) (K:KO α):Option α:=F N v.1.1 (nx 5 v.1.2).2.2.1 (nx 5 v.1.2).2.2.2.1 (nx 5 v.1.2).2.2.2.2.1 (nx 5 v.1.2).2.2.2.2.2.1 v.2.1 (fun o0_0 o0_1 o0_2 o0_3 o0_4 o0_5=>K (.normal ⟨(.iv (.int .i64) o0_0)::us 5 ((.lp 0 [] 0)::U::(.iv (.int .i64) o0_1)::(.iv (.int .i64) o0_2)::(.iv (.sl (.int .i64)) o0_3)::(.iv (.sl (.int .i64)) o0_4)::us 100 ([])),[(.box 111 (.iv (.pair (.int .i64) (.pair (.int .i64) (.pair (.int .i64) (.pair (.int .i64) .unit)))) o0_5) false)]⟩))
noncomputable def g_bZ (v:p_bZ.V) (K:KO α):Option α:=z_bZ N @wcD v K
noncomputable def p_b0:Pt:=⟨(.i (.int .i64))::ups 5 ((.p 0 [] 0)::.u::(.i (.int .i64))::(.i (.int .i64))::.u::.u::(.i (.sl (.int .i64)))::.u::(.i .bool)::ups 97 ([])),[(.box 111 (.i (.pair (.int .i64) (.pair (.int .i64) (.pair (.int .i64) (.pair (.int .i64) .unit))))) false)]⟩
noncomputable def z_b0 (F:type_of% @wcL) (v:p_b0.V) (K:KO α):Option α:=F N v.1.1 (nx 5 v.1.2).2.2.1 (nx 5 v.1.2).2.2.2.1 (nx 5 v.1.2).2.2.2.2.2.2.1 (nx 5 v.1.2).2.2.2.2.2.2.2.2.1 v.2.1 (fun o0_0 o0_1 o0_2 o0_3 o0_4=>K (.normal ⟨(.iv (.int .i64) o0_0)::us 5 ((.lp 0 [] 0)::U::U::(.iv (.int .i64) o0_1)::U::U::(.iv (.sl (.int .i64)) o0_2)::U::(.iv .bool o0_3)::us 97 ([])),[(.box 111 (.iv (.pair (.int .i64) (.pair (.int .i64) (.pair (.int .i64) (.pair (.int .i64) .unit)))) o0_4) false)]⟩))
noncomputable def g_b0 (v:p_b0.V) (K:KO α):Option α:=z_b0 N @wcL v K
noncomputable def p_b1:Pt:=⟨(.i (.int .i64))::ups 5 ((.p 0 [] 0)::.u::.u::(.i (.int .i64))::ups 4 ((.i .bool)::(.i (.int .u64))::ups 66 ((.i (.sl (.int .i64)))::(.i (.int .i64))::(.i (.int .i64))::ups 27 ([])))),[(.box 111 (.i (.pair (.int .i64) (.pair (.int .i64) (.pair (.int .i64) (.pair (.int .i64) .unit))))) false)]⟩
noncomputable def z_b1 (F:type_of% (@wP α 0 0)) (v:p_b1.V) (K:KO α):Option α:=F v.1.1 (nx 5 v.1.2).2.2.2.1 (nx 4 (nx 5 v.1.2).2.2.2.2).1 (nx 4 (nx 5 v.1.2).2.2.2.2).2.1 (nx 66 (nx 4 (nx 5 v.1.2).2.2.2.2).2.2).1 (nx 66 (nx 4 (nx 5 v.1.2).2.2.2.2).2.2).2.1 (nx 66 (nx 4 (nx 5 v.1.2).2.2.2.2).2.2).2.2.1 v.2.1 (fun o0_0 o0_1 o0_2 o0_3 o0_4=>K (.normal ⟨(.iv (.int .i64) o0_0)::us 5 ((.lp 0 [] 0)::U::U::(.iv (.int .i64) o0_1)::us 4 ((.iv .bool o0_2)::(.iv (.int .u64) o0_3)::us 96 ([]))),[(.box 111 (.iv (.pair (.int .i64) (.pair (.int .i64) (.pair (.int .i64) (.pair (.int .i64) .unit)))) o0_4) false)]⟩))
noncomputable def g_b1 (n:Nat) (v:p_b1.V) (K:KO α):Option α:=z_b1 (wP N n) v K
noncomputable def q_bZ (N:Nat):Piece:=(wj 5574657 p_bZ (g_bZ N))
noncomputable def q_b0 (N:Nat):Piece:=(wj 285544449 p_b0 (g_b0 N))
noncomputable def q_b1 (N:Nat):Piece:=(wj 491064550143183380516438103792671094604394676883457 p_b1 (g_b1 N N))
noncomputable def i_b2 (N:Nat):Fi:={ loans:=0,owns:=true,results:=[.tmp 4,.tmp 5],rtys:=[3,4],blks:=[(0,q_b1 N)],regs:=[(7,q_bZ N),(12,q_b0 N)],masks:=[(0,1342443521)] }
noncomputable def b_b2:Code:=match Tryz.f95.body with | some c=>c | none=>.skip
noncomputable def n_bZ:Code:=(.seq (wq b_b2 [1,1,1,1,1,1,0,0]) (wq b_b2 [1,1,1,1,1,1,0,1]))
noncomputable def n_b0:Code:=(.seq (wq b_b2 [1,1,1,1,1,1,1,1,1,0,0]) (wq b_b2 [1,1,1,1,1,1,1,1,1,0,1]))
noncomputable def n_b1:Code:=(.block 0 (.loop (wq b_b2 [1,1,1,1,1,1,1,1,1,1,1,0,1,0,0])))
theorem e_bZ (v:p_bZ.V) (K:KO α):wcK env (ct58 N) (i_b2 N) 5574657 n_bZ (p_bZ.mk' v) K=g_bZ N v K:=Eq.trans (b:=z_bZ N @wcD.b v K) (by kernel_rfl) (by unfold g_bZ; rw [wcD.eq])
theorem o_bZ (N:Nat):wv gd P (i_b2 N) n_bZ (q_bZ N) :=
 wG hE hP (wq4 N) (wn.of (by kernel_rfl) .nil) (wn.of (by kernel_rfl) .nil) (e_bZ N)
theorem e_b0 (v:p_b0.V) (K:KO α):wcK env (ct58 N) (i_b2 N) 285478913 n_b0 (p_b0.mk' v) K=g_b0 N v K:=Eq.trans (b:=z_b0 N @wcL.b v K) (by kernel_rfl) (by unfold g_b0; rw [wcL.eq])
theorem o_b0 (N:Nat):wv gd P (i_b2 N) n_b0 (q_b0 N) :=
 wG hE hP (wq4 N) (wn.of (by kernel_rfl) .nil) (wn.of (by kernel_rfl) .nil) (e_b0 N)
theorem e_b1 (n:Nat) (v:p_b1.V) (K:KO α):wbe env (ct58 N) (i_b2 N) 491064550143183380516438103792671094604394676883457 (wj 491064550143183380516438103792671094604394676883457 p_b1 (g_b1 N n)).run n_b1 (p_b1.mk' v) K=g_b1 N (n + 1) v K:=Eq.trans (b:=z_b1 (fun x0 x1 x2 x3 x4 x5 x6 x7 k0=>wfl N (fun y0 y1 y2 y3 y4 y5 y6 y7=>wP N n y0 y1 y2 y3 y4 y5 y6 y7 k0) k0 x0 x1 x2 x3 x4 x5 x6 x7) v K) (by kernel_rfl) (by unfold g_b1 z_b1; rw [wP.succ])
theorem o_b1 (N:Nat):wv gd P (i_b2 N) n_b1 (q_b1 N) :=
 wI hE hP (wq4 N) (wn.of (by kernel_rfl) .nil) (fun n {_}=>g_b1 N n) (fun _ _=>wP.zero ..) (fun n {_} v K=>e_b1 N n v K) N
noncomputable def p_b2:Pt:=⟨[(.i (.int .i64)),(.i (.pair .bool (.pair (.sl (.int .i64)) (.pair (.sl (.int .i64)) .unit))))],[]⟩
noncomputable def z_b2 (F:type_of% @wdr) (v:p_b2.V) (K:KF α):Option α:=F N v.1.1 v.1.2.1 (fun o0_0 o0_1=>K (.tuple [(.iv (.int .i64) o0_0),(.iv .bool o0_1)]) [])
noncomputable def g_b2 (v:p_b2.V) (K:KF α):Option α:=z_b2 N @wdr v K
theorem e_b2 (v:p_b2.V) (K:KF α):wbB env (ct58 N) (i_b2 N) Tryz.f95 (SP.mkL p_b2.slots v.1) (BP.mkL p_b2.store v.2) K=g_b2 N v K:=Eq.trans (b:=z_b2 N @wdr.b v K) (by kernel_rfl) (by unfold g_b2; rw [wdr.eq])
theorem o_b2 (N:Nat):wk gd P 95 (wa false p_b2 (g_b2 N)) :=
 wh fun v K h=>wJ hE hP (wq4 N) Tryz.func95 (by kernel_rfl) (body:=b_b2) (by kernel_rfl) (by kernel_rfl) (wn.of (by kernel_rfl) (.cons (o_bZ N) (.cons (o_b0 N) (.cons (o_b1 N) .nil)))) (loans:=BP.mkL p_b2.store v.2) rfl ((e_b2 N v K).trans h)
noncomputable def ct59 (N:Nat):CT:=(95,(wa false p_b2 (g_b2 N)))::ct58 N
theorem wsw (N:Nat):CTOK gd P (ct59 N):=.cons (o_b2 N) (wq4 N)

noncomputable def p_b3:Pt:=⟨.u::.u::.u::(.p 0 [] 0)::.u::.u::(.i (.int .i64))::(.i .bool)::(.i (.int .i64))::ups 19 ([]),[(.box 25 (.i (.pair .bool (.pair (.sl (.int .i64)) (.pair (.sl (.int .i64)) .unit)))) false)]⟩
noncomputable def z_b3 (F:type_of% @wdP) (v:p_b3.V) (K:KO α):Option α:=F N v.1.2.2.2.2.2.2.1 v.1.2.2.2.2.2.2.2.1 v.1.2.2.2.2.2.2.2.2.1 v.2.1 (fun o0_0 o0_1 o0_2=>K (.normal ⟨U::U::U::(.lp 0 [] 0)::U::U::(.iv (.int .i64) o0_0)::U::(.iv (.int .i64) o0_1)::us 19 ([]),[(.box 25 (.iv (.pair .bool (.pair (.sl (.int .i64)) (.pair (.sl (.int .i64)) .unit))) o0_2) false)]⟩))
noncomputable def g_b3 (v:p_b3.V) (K:KO α):Option α:=z_b3 N @wdP v K
noncomputable def q_b3 (N:Nat):Piece:=(wj 86080 p_b3 (g_b3 N))
noncomputable def i_b4 (N:Nat):Fi:={ loans:=0,owns:=true,results:=[.tmp 4,.tmp 5],rtys:=[3,3],blks:=[],regs:=[(3,q_b3 N)],masks:=[] }
noncomputable def b_b4:Code:=match Tryz.f57.body with | some c=>c | none=>.skip
noncomputable def n_b3:Code:=(.seq (wq b_b4 [1,1,1,0,0]) (wq b_b4 [1,1,1,0,1]))
theorem e_b3 (v:p_b3.V) (K:KO α):wcK env (ct59 N) (i_b4 N) 69696 n_b3 (p_b3.mk' v) K=g_b3 N v K:=Eq.trans (b:=z_b3 N @wdP.b v K) (by kernel_rfl) (by unfold g_b3; rw [wdP.eq])
theorem o_b3 (N:Nat):wv gd P (i_b4 N) n_b3 (q_b3 N) :=
 wG hE hP (wsw N) (wn.of (by kernel_rfl) .nil) (wn.of (by kernel_rfl) .nil) (e_b3 N)
noncomputable def p_b4:Pt:=⟨[(.i (.int .i64)),(.i (.pair .bool (.pair (.sl (.int .i64)) (.pair (.sl (.int .i64)) .unit))))],[]⟩
noncomputable def z_b4 (F:type_of% @weH) (v:p_b4.V) (K:KF α):Option α:=F N v.1.1 v.1.2.1 (fun o0_0 o0_1=>K (.tuple [(.iv (.int .i64) o0_0),(.iv (.int .i64) o0_1)]) [])
noncomputable def g_b4 (v:p_b4.V) (K:KF α):Option α:=z_b4 N @weH v K
theorem e_b4 (v:p_b4.V) (K:KF α):wbB env (ct59 N) (i_b4 N) Tryz.f57 (SP.mkL p_b4.slots v.1) (BP.mkL p_b4.store v.2) K=g_b4 N v K:=Eq.trans (b:=z_b4 N @weH.b v K) (by kernel_rfl) (by unfold g_b4; rw [weH.eq])
theorem o_b4 (N:Nat):wk gd P 57 (wa false p_b4 (g_b4 N)) :=
 wh fun v K h=>wJ hE hP (wsw N) Tryz.func57 (by kernel_rfl) (body:=b_b4) (by kernel_rfl) (by kernel_rfl) (wn.of (by kernel_rfl) (.cons (o_b3 N) .nil)) (loans:=BP.mkL p_b4.store v.2) rfl ((e_b4 N v K).trans h)
noncomputable def ct60 (N:Nat):CT:=(57,(wa false p_b4 (g_b4 N)))::ct59 N
theorem wuR (N:Nat):CTOK gd P (ct60 N):=.cons (o_b4 N) (wsw N)

noncomputable def i_b5 (N:Nat):Fi:={ loans:=0,owns:=true,results:=[.cell 4 35,.tmp 5],rtys:=[35,4],blks:=[],regs:=[],masks:=[] }
noncomputable def b_b5:Code:=match Tryz.f20.body with | some c=>c | none=>.skip
noncomputable def p_b5:Pt:=⟨[(.i (.int .i64)),(.i (.pair .bool (.pair (.sl (.int .i64)) (.pair (.sl (.int .i64)) .unit))))],[]⟩
noncomputable def z_b5 (F:type_of% @wdh) (v:p_b5.V) (K:KF α):Option α:=F N v.1.1 v.1.2.1 (fun o0_0 o0_1=>K (.tuple [(.iv (.pair (.int .i64) (.pair (.int .i64) .unit)) o0_0),(.iv .bool o0_1)]) [])
noncomputable def g_b5 (v:p_b5.V) (K:KF α):Option α:=z_b5 N @wdh v K
theorem e_b5 (v:p_b5.V) (K:KF α):wbB env (ct60 N) (i_b5 N) Tryz.f20 (SP.mkL p_b5.slots v.1) (BP.mkL p_b5.store v.2) K=g_b5 N v K:=Eq.trans (b:=z_b5 N @wdh.b v K) (by kernel_rfl) (by unfold g_b5; rw [wdh.eq])
theorem o_b5 (N:Nat):wk gd P 20 (wa false p_b5 (g_b5 N)) :=
 wh fun v K h=>wJ hE hP (wuR N) Tryz.func20 (by kernel_rfl) (body:=b_b5) (by kernel_rfl) (by kernel_rfl) (wn.of (by kernel_rfl) .nil) (loans:=BP.mkL p_b5.store v.2) rfl ((e_b5 N v K).trans h)
noncomputable def ct61 (N:Nat):CT:=(20,(wa false p_b5 (g_b5 N)))::ct60 N
theorem wuZ (N:Nat):CTOK gd P (ct61 N):=.cons (o_b5 N) (wuR N)

noncomputable def i_b6 (N:Nat):Fi:={ loans:=0,owns:=true,results:=[.cell 4 35,.tmp 5],rtys:=[35,4],blks:=[],regs:=[],masks:=[] }
noncomputable def b_b6:Code:=match Tryz.f14.body with | some c=>c | none=>.skip
noncomputable def p_b6:Pt:=⟨[(.i (.int .i64)),(.i .str)],[]⟩
noncomputable def z_b6 (F:type_of% @wec) (v:p_b6.V) (K:KF α):Option α:=F N v.1.1 v.1.2.1 (fun o0_0 o0_1=>K (.tuple [(.iv (.pair (.int .i64) (.pair (.int .i64) .unit)) o0_0),(.iv .bool o0_1)]) [])
noncomputable def g_b6 (v:p_b6.V) (K:KF α):Option α:=z_b6 N @wec v K
theorem e_b6 (v:p_b6.V) (K:KF α):wbB env (ct61 N) (i_b6 N) Tryz.f14 (SP.mkL p_b6.slots v.1) (BP.mkL p_b6.store v.2) K=g_b6 N v K:=Eq.trans (b:=z_b6 N @wec.b v K) (by kernel_rfl) (by unfold g_b6; rw [wec.eq])
theorem o_b6 (N:Nat):wk gd P 14 (wa false p_b6 (g_b6 N)) :=
 wh fun v K h=>wJ hE hP (wuZ N) Tryz.func14 (by kernel_rfl) (body:=b_b6) (by kernel_rfl) (by kernel_rfl) (wn.of (by kernel_rfl) .nil) (loans:=BP.mkL p_b6.store v.2) rfl ((e_b6 N v K).trans h)
noncomputable def ct62 (N:Nat):CT:=(14,(wa false p_b6 (g_b6 N)))::ct61 N
theorem wsO (N:Nat):CTOK gd P (ct62 N):=.cons (o_b6 N) (wuZ N)

noncomputable def p_b7:Pt:=⟨(.i .str)::(.i (.int .i64))::.u::.u::.u::(.i (.int .i64))::ups 25 ([]),[]⟩
noncomputable def z_b7 (F:type_of% (@wY α 0 0)) (v:p_b7.V) (K:KO α):Option α:=F v.1.1 v.1.2.1 v.1.2.2.2.2.2.1 (fun o0_0=>K (.normal ⟨us 5 ((.iv (.int .i64) o0_0)::us 25 ([])),[]⟩))
noncomputable def g_b7 (n:Nat) (v:p_b7.V) (K:KO α):Option α:=z_b7 (wY N n) v K
noncomputable def q_b7 (N:Nat):Piece:=(wj 1029 p_b7 (g_b7 N N))
noncomputable def i_b8 (N:Nat):Fi:={ loans:=0,owns:=true,results:=[.tmp 4],rtys:=[3],blks:=[(0,q_b7 N)],regs:=[],masks:=[(0,1024)] }
noncomputable def b_b8:Code:=match Tryz.f86.body with | some c=>c | none=>.skip
noncomputable def n_b7:Code:=(.block 0 (.loop (wq b_b8 [1,1,0,0,0])))
theorem e_b7 (n:Nat) (v:p_b7.V) (K:KO α):wbe env (ct62 N) (i_b8 N) 1029 (wj 1029 p_b7 (g_b7 N n)).run n_b7 (p_b7.mk' v) K=g_b7 N (n + 1) v K:=Eq.trans (b:=z_b7 (fun x0 x1 x2 k0=>wfq N (fun y0 y1 y2=>wY N n y0 y1 y2 k0) k0 x0 x1 x2) v K) (by kernel_rfl) (by unfold g_b7 z_b7; rw [wY.succ])
theorem o_b7 (N:Nat):wv gd P (i_b8 N) n_b7 (q_b7 N) :=
 wI hE hP (wsO N) (wn.of (by kernel_rfl) .nil) (fun n {_}=>g_b7 N n) (fun _ _=>wY.zero ..) (fun n {_} v K=>e_b7 N n v K) N
noncomputable def p_b8:Pt:=⟨[(.i .str),(.i (.int .i64))],[]⟩
noncomputable def z_b8 (F:type_of% @wcA) (v:p_b8.V) (K:KF α):Option α:=F N v.1.1 v.1.2.1 (fun o0_0=>K (.iv (.int .i64) o0_0) [])
noncomputable def g_b8 (v:p_b8.V) (K:KF α):Option α:=z_b8 N @wcA v K
theorem e_b8 (v:p_b8.V) (K:KF α):wbB env (ct62 N) (i_b8 N) Tryz.f86 (SP.mkL p_b8.slots v.1) (BP.mkL p_b8.store v.2) K=g_b8 N v K:=Eq.trans (b:=z_b8 N @wcA.b v K) (by kernel_rfl) (by unfold g_b8; rw [wcA.eq])
theorem o_b8 (N:Nat):wk gd P 86 (wa false p_b8 (g_b8 N)) :=
 wh fun v K h=>wJ hE hP (wsO N) Tryz.func86 (by kernel_rfl) (body:=b_b8) (by kernel_rfl) (by kernel_rfl) (wn.of (by kernel_rfl) (.cons (o_b7 N) .nil)) (loans:=BP.mkL p_b8.store v.2) rfl ((e_b8 N v K).trans h)
noncomputable def ct63 (N:Nat):CT:=(86,(wa false p_b8 (g_b8 N)))::ct62 N
theorem woD (N:Nat):CTOK gd P (ct63 N):=.cons (o_b8 N) (wsO N)

noncomputable def p_b9:Pt:=⟨(.i .str)::ups 6 ((.i .str)::(.i (.int .i64))::(.i (.int .i64))::ups 138 ([])),[]⟩
noncomputable def z_b9 (F:type_of% @wcN) (v:p_b9.V) (K:KO α):Option α:=F N v.1.1 (nx 6 v.1.2).1 (nx 6 v.1.2).2.1 (nx 6 v.1.2).2.2.1 (fun o0_0 o0_1 o0_2 o0_3=>K (.ret (.tuple [(.iv .str o0_0),(.iv (.int .i64) o0_1),(.iv (.int .i64) o0_2),(.iv .bool o0_3)]) [])) (fun o1_0 o1_1 o1_2 o1_3=>K (.normal ⟨(.iv .str o1_0)::us 6 ((.iv .str o1_1)::(.iv (.int .i64) o1_2)::(.iv (.int .i64) o1_3)::us 138 ([])),[]⟩))
noncomputable def g_b9 (v:p_b9.V) (K:KO α):Option α:=z_b9 N @wcN v K
noncomputable def p_ca:Pt:=⟨(.i .str)::ups 6 ((.i .str)::(.i (.int .i64))::(.i (.int .i64))::(.i (.int .i64))::(.i .bool)::ups 136 ([])),[]⟩
noncomputable def z_ca (F:type_of% @wcM) (v:p_ca.V) (K:KO α):Option α:=F N v.1.1 (nx 6 v.1.2).1 (nx 6 v.1.2).2.1 (nx 6 v.1.2).2.2.1 (nx 6 v.1.2).2.2.2.1 (nx 6 v.1.2).2.2.2.2.1 (fun o0_0 o0_1 o0_2 o0_3 o0_4 o0_5=>K (.normal ⟨(.iv .str o0_0)::us 6 ((.iv .str o0_1)::(.iv (.int .i64) o0_2)::(.iv (.int .i64) o0_3)::(.iv (.int .i64) o0_4)::(.iv .bool o0_5)::us 136 ([])),[]⟩))
noncomputable def g_ca (v:p_ca.V) (K:KO α):Option α:=z_ca N @wcM v K
noncomputable def p_cb:Pt:=⟨(.i .str)::ups 6 ((.i .str)::(.i (.int .i64))::(.i (.int .i64))::(.i (.int .i64))::(.i .bool)::(.i (.int .i64))::(.i (.int .i64))::ups 134 ([])),[]⟩
noncomputable def z_cb (F:type_of% (@wH α 0 0)) (v:p_cb.V) (K:KO α):Option α:=F v.1.1 (nx 6 v.1.2).1 (nx 6 v.1.2).2.1 (nx 6 v.1.2).2.2.1 (nx 6 v.1.2).2.2.2.1 (nx 6 v.1.2).2.2.2.2.1 (nx 6 v.1.2).2.2.2.2.2.1 (nx 6 v.1.2).2.2.2.2.2.2.1 (fun o0_0 o0_1 o0_2 o0_3 o0_4 o0_5 o0_6=>K (.normal ⟨(.iv .str o0_0)::us 6 ((.iv .str o0_1)::(.iv (.int .i64) o0_2)::(.iv (.int .i64) o0_3)::(.iv (.int .i64) o0_4)::(.iv .bool o0_5)::(.iv (.int .i64) o0_6)::us 135 ([])),[]⟩))
noncomputable def g_cb (n:Nat) (v:p_cb.V) (K:KO α):Option α:=z_cb (wH N n) v K
noncomputable def p_cc:Pt:=⟨(.i .str)::ups 6 ((.i .str)::(.i (.int .i64))::(.i (.int .i64))::(.i (.int .i64))::(.i .bool)::(.i (.int .i64))::ups 135 ([])),[]⟩
noncomputable def z_cc (F:type_of% @wV) (v:p_cc.V) (K:KO α):Option α:=F N v.1.1 (nx 6 v.1.2).1 (nx 6 v.1.2).2.1 (nx 6 v.1.2).2.2.1 (nx 6 v.1.2).2.2.2.1 (nx 6 v.1.2).2.2.2.2.1 (nx 6 v.1.2).2.2.2.2.2.1 (fun o0_0 o0_1 o0_2 o0_3 o0_4 o0_5=>K (.normal ⟨(.iv .str o0_0)::us 6 ((.iv .str o0_1)::(.iv (.int .i64) o0_2)::(.iv (.int .i64) o0_3)::(.iv (.int .i64) o0_4)::U::(.iv (.int .i64) o0_5)::us 135 ([])),[]⟩))
noncomputable def g_cc (v:p_cc.V) (K:KO α):Option α:=z_cc N @wV v K
noncomputable def p_cd:Pt:=⟨(.i .str)::ups 6 ((.i .str)::(.i (.int .i64))::(.i (.int .i64))::(.i (.int .i64))::ups 137 ([])),[]⟩
noncomputable def z_cd (F:type_of% @wb6) (v:p_cd.V) (K:KO α):Option α:=F N v.1.1 (nx 6 v.1.2).1 (nx 6 v.1.2).2.1 (nx 6 v.1.2).2.2.1 (nx 6 v.1.2).2.2.2.1 (fun o0_0 o0_1 o0_2 o0_3=>K (.ret (.tuple [(.iv .str o0_0),(.iv (.int .i64) o0_1),(.iv (.int .i64) o0_2),(.iv .bool o0_3)]) [])) (fun o1_0 o1_1 o1_2 o1_3 o1_4=>K (.normal ⟨(.iv .str o1_0)::us 6 ((.iv .str o1_1)::(.iv (.int .i64) o1_2)::(.iv (.int .i64) o1_3)::(.iv (.int .i64) o1_4)::us 137 ([])),[]⟩))
noncomputable def g_cd (v:p_cd.V) (K:KO α):Option α:=z_cd N @wb6 v K
noncomputable def q_b9 (N:Nat):Piece:=(wj 344065 p_b9 (g_b9 N))
noncomputable def q_ca (N:Nat):Piece:=(wj 5586945 p_ca (g_ca N))
noncomputable def q_cb (N:Nat):Piece:=(wj 89473025 p_cb (g_cb N N))
noncomputable def q_cc (N:Nat):Piece:=(wj 22364161 p_cc (g_cc N))
noncomputable def q_cd (N:Nat):Piece:=(wj 1392641 p_cd (g_cd N))
noncomputable def i_ce (N:Nat):Fi:={ loans:=0,owns:=true,results:=[.tmp 2,.tmp 3,.tmp 4,.tmp 5],rtys:=[9,3,3,4],blks:=[(0,q_cb N)],regs:=[(9,q_b9 N),(19,q_ca N),(30,q_cc N),(16,q_cd N)],masks:=[(0,22364161)] }
noncomputable def b_ce:Code:=match Tryz.f43.body with | some c=>c | none=>.skip
noncomputable def n_b9:Code:=(.seq (wq b_ce [1,1,1,1,1,1,1,0,0]) (wq b_ce [1,1,1,1,1,1,1,0,1]))
noncomputable def n_ca:Code:=(.seq (wq b_ce [1,1,1,1,1,1,1,1,1,0,1,0,1,1,0,0]) (wq b_ce [1,1,1,1,1,1,1,1,1,0,1,0,1,1,0,1]))
noncomputable def n_cb:Code:=(.block 0 (.loop (wq b_ce [1,1,1,1,1,1,1,1,1,0,1,0,1,1,1,1,1,0,1,0,0])))
noncomputable def n_cc:Code:=(.seq (wq b_ce [1,1,1,1,1,1,1,1,1,0,1,0,1,1,1,1,1,1,1,0,0]) (wq b_ce [1,1,1,1,1,1,1,1,1,0,1,0,1,1,1,1,1,1,1,0,1]))
noncomputable def n_cd:Code:=(.seq (wq b_ce [1,1,1,1,1,1,1,1,1,0,0]) (wq b_ce [1,1,1,1,1,1,1,1,1,0,1]))
theorem e_b9 (v:p_b9.V) (K:KO α):wcK env (ct63 N) (i_ce N) 344065 n_b9 (p_b9.mk' v) K=g_b9 N v K:=Eq.trans (b:=z_b9 N @wcN.b v K) (by kernel_rfl) (by unfold g_b9; rw [wcN.eq])
theorem o_b9 (N:Nat):wv gd P (i_ce N) n_b9 (q_b9 N) :=
 wG hE hP (woD N) (wn.of (by kernel_rfl) .nil) (wn.of (by kernel_rfl) .nil) (e_b9 N)
theorem e_ca (v:p_ca.V) (K:KO α):wcK env (ct63 N) (i_ce N) 5586945 n_ca (p_ca.mk' v) K=g_ca N v K:=Eq.trans (b:=z_ca N @wcM.b v K) (by kernel_rfl) (by unfold g_ca; rw [wcM.eq])
theorem o_ca (N:Nat):wv gd P (i_ce N) n_ca (q_ca N) :=
 wG hE hP (woD N) (wn.of (by kernel_rfl) .nil) (wn.of (by kernel_rfl) .nil) (e_ca N)
theorem e_cb (n:Nat) (v:p_cb.V) (K:KO α):wbe env (ct63 N) (i_ce N) 89473025 (wj 89473025 p_cb (g_cb N n)).run n_cb (p_cb.mk' v) K=g_cb N (n + 1) v K:=Eq.trans (b:=z_cb (fun x0 x1 x2 x3 x4 x5 x6 x7 k0=>wfK N (fun y0 y1 y2 y3 y4 y5 y6 y7=>wH N n y0 y1 y2 y3 y4 y5 y6 y7 k0) k0 x0 x1 x2 x3 x4 x5 x6 x7) v K) (by kernel_rfl) (by unfold g_cb z_cb; rw [wH.succ])
theorem o_cb (N:Nat):wv gd P (i_ce N) n_cb (q_cb N) :=
 wI hE hP (woD N) (wn.of (by kernel_rfl) .nil) (fun n {_}=>g_cb N n) (fun _ _=>wH.zero ..) (fun n {_} v K=>e_cb N n v K) N
theorem e_cc (v:p_cc.V) (K:KO α):wcK env (ct63 N) (i_ce N) 18169857 n_cc (p_cc.mk' v) K=g_cc N v K:=Eq.trans (b:=z_cc N @wV.b v K) (by kernel_rfl) (by unfold g_cc; rw [wV.eq])
theorem o_cc (N:Nat):wv gd P (i_ce N) n_cc (q_cc N) :=
 wG hE hP (woD N) (wn.of (by kernel_rfl) .nil) (wn.of (by kernel_rfl) .nil) (e_cc N)
theorem e_cd (v:p_cd.V) (K:KO α):wcK env (ct63 N) (i_ce N) 1392641 n_cd (p_cd.mk' v) K=g_cd N v K:=Eq.trans (b:=z_cd N @wb6.b v K) (by kernel_rfl) (by unfold g_cd; rw [wb6.eq])
theorem o_cd (N:Nat):wv gd P (i_ce N) n_cd (q_cd N) :=
 wG hE hP (woD N) (wn.of (by kernel_rfl) .nil) (wn.of (by kernel_rfl) (.cons (o_ca N) (.cons (o_cb N) (.cons (o_cc N) .nil)))) (e_cd N)
noncomputable def p_ce:Pt:=⟨[(.i .str)],[]⟩
noncomputable def z_ce (F:type_of% @wdJ) (v:p_ce.V) (K:KF α):Option α:=F N v.1.1 (fun o0_0 o0_1 o0_2 o0_3=>K (.tuple [(.iv .str o0_0),(.iv (.int .i64) o0_1),(.iv (.int .i64) o0_2),(.iv .bool o0_3)]) [])
noncomputable def g_ce (v:p_ce.V) (K:KF α):Option α:=z_ce N @wdJ v K
theorem e_ce (v:p_ce.V) (K:KF α):wbB env (ct63 N) (i_ce N) Tryz.f43 (SP.mkL p_ce.slots v.1) (BP.mkL p_ce.store v.2) K=g_ce N v K:=Eq.trans (b:=z_ce N @wdJ.b v K) (by kernel_rfl) (by unfold g_ce; rw [wdJ.eq])
theorem o_ce (N:Nat):wk gd P 43 (wa false p_ce (g_ce N)) :=
 wh fun v K h=>wJ hE hP (woD N) Tryz.func43 (by kernel_rfl) (body:=b_ce) (by kernel_rfl) (by kernel_rfl) (wn.of (by kernel_rfl) (.cons (o_b9 N) (.cons (o_cd N) .nil))) (loans:=BP.mkL p_ce.store v.2) rfl ((e_ce N v K).trans h)
noncomputable def ct64 (N:Nat):CT:=(43,(wa false p_ce (g_ce N)))::ct63 N
theorem wrg (N:Nat):CTOK gd P (ct64 N):=.cons (o_ce N) (woD N)

noncomputable def p_cf:Pt:=⟨(.i (.sl (.int .i64)))::(.i (.sl (.int .i64)))::.u::.u::.u::(.o 0)::(.i (.int .i64))::(.i (.int .i64))::(.i (.int .i64))::ups 55 ([]),[(.arr 3 (.int .i64) false)]⟩
noncomputable def z_cf (F:type_of% (@wbX α 0 0)) (v:p_cf.V) (K:KO α):Option α:=F v.1.1 v.1.2.1 v.1.2.2.2.2.2.2.1 v.1.2.2.2.2.2.2.2.1 v.1.2.2.2.2.2.2.2.2.1 v.2.1 (fun o0_0 o0_1 o0_2 o0_3 o0_4=>K (.normal ⟨(.iv (.sl (.int .i64)) o0_0)::(.iv (.sl (.int .i64)) o0_1)::U::U::U::(.own 0)::(.iv (.int .i64) o0_2)::(.iv (.int .i64) o0_3)::us 56 ([]),[(.arr 3 (.int .i64) o0_4 false)]⟩))
noncomputable def g_cf (n:Nat) (v:p_cf.V) (K:KO α):Option α:=z_cf (wbX N n) v K
noncomputable def p_cg:Pt:=⟨(.i (.sl (.int .i64)))::(.i (.sl (.int .i64)))::.u::.u::.u::(.o 0)::(.i (.int .i64))::ups 57 ([]),[(.arr 3 (.int .i64) false)]⟩
noncomputable def z_cg (F:type_of% (@wcd α 0 0)) (v:p_cg.V) (K:KO α):Option α:=F v.1.1 v.1.2.1 v.1.2.2.2.2.2.2.1 v.2.1 (fun o0_0=>K (.normal ⟨us 5 ((.own 0)::us 58 ([])),[(.arr 3 (.int .i64) o0_0 false)]⟩))
noncomputable def g_cg (n:Nat) (v:p_cg.V) (K:KO α):Option α:=z_cg (wcd N n) v K
noncomputable def q_cf (N:Nat):Piece:=(wj 87045 p_cf (g_cf N N))
noncomputable def q_cg (N:Nat):Piece:=(wj 5125 p_cg (g_cg N N))
noncomputable def i_ch (N:Nat):Fi:={ loans:=0,owns:=true,results:=[.tmp 4],rtys:=[23],blks:=[(2,q_cf N),(0,q_cg N)],regs:=[],masks:=[(0,1024),(2,21509)] }
noncomputable def b_ch:Code:=match Tryz.f49.body with | some c=>c | none=>.skip
noncomputable def n_cf:Code:=(.block 2 (.loop (wq b_ch [1,1,0,1,0,0,1,0,0,1,0,1,0,0])))
noncomputable def n_cg:Code:=(.block 0 (.loop (wq b_ch [1,1,0,1,0,0])))
theorem e_cf (n:Nat) (v:p_cf.V) (K:KO α):wbe env (ct64 N) (i_ch N) 87045 (wj 87045 p_cf (g_cf N n)).run n_cf (p_cf.mk' v) K=g_cf N (n + 1) v K:=Eq.trans (b:=z_cf (fun x0 x1 x2 x3 x4 x5 k0=>wgn N (fun y0 y1 y2 y3 y4 y5=>wbX N n y0 y1 y2 y3 y4 y5 k0) k0 x0 x1 x2 x3 x4 x5) v K) (by kernel_rfl) (by unfold g_cf z_cf; rw [wbX.succ])
theorem o_cf (N:Nat):wv gd P (i_ch N) n_cf (q_cf N) :=
 wI hE hP (wrg N) (wn.of (by kernel_rfl) .nil) (fun n {_}=>g_cf N n) (fun _ _=>wbX.zero ..) (fun n {_} v K=>e_cf N n v K) N
theorem e_cg (n:Nat) (v:p_cg.V) (K:KO α):wbe env (ct64 N) (i_ch N) 5125 (wj 5125 p_cg (g_cg N n)).run n_cg (p_cg.mk' v) K=g_cg N (n + 1) v K:=Eq.trans (b:=z_cg (fun x0 x1 x2 x3 k0=>wgk N (fun y0 y1 y2 y3=>wcd N n y0 y1 y2 y3 k0) k0 x0 x1 x2 x3) v K) (by kernel_rfl) (by unfold g_cg z_cg; rw [wcd.succ])
theorem o_cg (N:Nat):wv gd P (i_ch N) n_cg (q_cg N) :=
 wI hE hP (wrg N) (wn.of (by kernel_rfl) (.cons (o_cf N) .nil)) (fun n {_}=>g_cg N n) (fun _ _=>wcd.zero ..) (fun n {_} v K=>e_cg N n v K) N
noncomputable def p_ch:Pt:=⟨[(.i (.sl (.int .i64))),(.i (.sl (.int .i64)))],[]⟩
noncomputable def z_ch (F:type_of% @wdf) (v:p_ch.V) (K:KF α):Option α:=F N v.1.1 v.1.2.1 (fun o0_0=>K (.own 0) [(.arr 3 (.int .i64) o0_0 false)])
noncomputable def g_ch (v:p_ch.V) (K:KF α):Option α:=z_ch N @wdf v K
theorem e_ch (v:p_ch.V) (K:KF α):wbB env (ct64 N) (i_ch N) Tryz.f49 (SP.mkL p_ch.slots v.1) (BP.mkL p_ch.store v.2) K=g_ch N v K:=Eq.trans (b:=z_ch N @wdf.b v K) (by kernel_rfl) (by unfold g_ch; rw [wdf.eq])
theorem o_ch (N:Nat):wk gd P 49 (wa false p_ch (g_ch N)) :=
 wh fun v K h=>wJ hE hP (wrg N) Tryz.func49 (by kernel_rfl) (body:=b_ch) (by kernel_rfl) (by kernel_rfl) (wn.of (by kernel_rfl) (.cons (o_cg N) .nil)) (loans:=BP.mkL p_ch.store v.2) rfl ((e_ch N v K).trans h)
noncomputable def ct65 (N:Nat):CT:=(49,(wa false p_ch (g_ch N)))::ct64 N
theorem wuQ (N:Nat):CTOK gd P (ct65 N):=.cons (o_ch N) (wrg N)

noncomputable def i_ci (N:Nat):Fi:={ loans:=0,owns:=true,results:=[.tmp 4],rtys:=[23],blks:=[],regs:=[],masks:=[] }
noncomputable def b_ci:Code:=match Tryz.f46.body with | some c=>c | none=>.skip
noncomputable def p_ci:Pt:=⟨[(.i (.sl (.int .i64))),(.i (.int .i64))],[]⟩
noncomputable def z_ci (F:type_of% @wc0) (v:p_ci.V) (K:KF α):Option α:=F N v.1.1 v.1.2.1 (fun o0_0=>K (.own 0) [(.arr 3 (.int .i64) o0_0 false)])
noncomputable def g_ci (v:p_ci.V) (K:KF α):Option α:=z_ci N @wc0 v K
theorem e_ci (v:p_ci.V) (K:KF α):wbB env (ct65 N) (i_ci N) Tryz.f46 (SP.mkL p_ci.slots v.1) (BP.mkL p_ci.store v.2) K=g_ci N v K:=Eq.trans (b:=z_ci N @wc0.b v K) (by kernel_rfl) (by unfold g_ci; rw [wc0.eq])
theorem o_ci (N:Nat):wk gd P 46 (wa false p_ci (g_ci N)) :=
 wh fun v K h=>wJ hE hP (wuQ N) Tryz.func46 (by kernel_rfl) (body:=b_ci) (by kernel_rfl) (by kernel_rfl) (wn.of (by kernel_rfl) .nil) (loans:=BP.mkL p_ci.store v.2) rfl ((e_ci N v K).trans h)
noncomputable def ct66 (N:Nat):CT:=(46,(wa false p_ci (g_ci N)))::ct65 N
theorem wtR (N:Nat):CTOK gd P (ct66 N):=.cons (o_ci N) (wuQ N)

noncomputable def i_cj (N:Nat):Fi:={ loans:=0,owns:=true,results:=[.tmp 4],rtys:=[3],blks:=[],regs:=[],masks:=[] }
noncomputable def b_cj:Code:=match Tryz.f87.body with | some c=>c | none=>.skip
noncomputable def p_cj:Pt:=⟨[(.i (.sl (.int .i64))),(.i (.int .i64))],[]⟩
noncomputable def z_cj (F:type_of% @weU) (v:p_cj.V) (K:KF α):Option α:=F N v.1.1 v.1.2.1 (fun o0_0=>K (.iv (.int .i64) o0_0) [])
noncomputable def g_cj (v:p_cj.V) (K:KF α):Option α:=z_cj N @weU v K
theorem e_cj (v:p_cj.V) (K:KF α):wbB env (ct66 N) (i_cj N) Tryz.f87 (SP.mkL p_cj.slots v.1) (BP.mkL p_cj.store v.2) K=g_cj N v K:=Eq.trans (b:=z_cj N @weU.b v K) (by kernel_rfl) (by unfold g_cj; rw [weU.eq])
theorem o_cj (N:Nat):wk gd P 87 (wa false p_cj (g_cj N)) :=
 wh fun v K h=>wJ hE hP (wtR N) Tryz.func87 (by kernel_rfl) (body:=b_cj) (by kernel_rfl) (by kernel_rfl) (wn.of (by kernel_rfl) .nil) (loans:=BP.mkL p_cj.store v.2) rfl ((e_cj N v K).trans h)
noncomputable def ct67 (N:Nat):CT:=(87,(wa false p_cj (g_cj N)))::ct66 N
theorem wqi (N:Nat):CTOK gd P (ct67 N):=.cons (o_cj N) (wtR N)

noncomputable def p_ck:Pt:=⟨(.i (.sl (.int .i64)))::(.i (.sl (.int .i64)))::.u::.u::.u::(.i (.int .i64))::ups 40 ([]),[]⟩
noncomputable def z_ck (F:type_of% @wdR) (v:p_ck.V) (K:KO α):Option α:=F N v.1.1 v.1.2.1 v.1.2.2.2.2.2.1 (fun o0_0 o0_1 o0_2=>K (.normal ⟨(.iv (.sl (.int .i64)) o0_0)::(.iv (.sl (.int .i64)) o0_1)::U::U::U::(.iv (.int .i64) o0_2)::us 40 ([]),[]⟩))
noncomputable def g_ck (v:p_ck.V) (K:KO α):Option α:=z_ck N @wdR v K
noncomputable def p_cl:Pt:=⟨(.i (.sl (.int .i64)))::(.i (.sl (.int .i64)))::.u::.u::.u::(.i (.int .i64))::(.o 0)::(.i (.int .i64))::(.i (.int .i64))::ups 37 ([]),[(.arr 3 (.int .i64) false)]⟩
noncomputable def z_cl (F:type_of% (@wca α 0 0)) (v:p_cl.V) (K:KO α):Option α:=F v.1.1 v.1.2.1 v.1.2.2.2.2.2.1 v.1.2.2.2.2.2.2.2.1 v.1.2.2.2.2.2.2.2.2.1 v.2.1 (fun o0_0 o0_1=>K (.normal ⟨us 6 ((.own 0)::(.iv (.int .i64) o0_0)::us 38 ([])),[(.arr 3 (.int .i64) o0_1 false)]⟩))
noncomputable def g_cl (n:Nat) (v:p_cl.V) (K:KO α):Option α:=z_cl (wca N n) v K
noncomputable def p_cm:Pt:=⟨ups 6 ((.o 0)::(.i (.int .i64))::ups 38 ([])),[(.arr 3 (.int .i64) false)]⟩
noncomputable def z_cm (F:type_of% @wdQ) (v:p_cm.V) (K:KO α):Option α:=F N (nx 6 v.1).2.1 v.2.1 (fun o0_0=>K (.normal ⟨us 6 ((.own 0)::us 39 ([])),[(.arr 3 (.int .i64) o0_0 false)]⟩))
noncomputable def g_cm (v:p_cm.V) (K:KO α):Option α:=z_cm N @wdQ v K
noncomputable def q_ck (N:Nat):Piece:=(wj 1029 p_ck (g_ck N))
noncomputable def q_cl (N:Nat):Piece:=(wj 87045 p_cl (g_cl N N))
noncomputable def q_cm (N:Nat):Piece:=(wj 20480 p_cm (g_cm N))
noncomputable def i_cn (N:Nat):Fi:={ loans:=0,owns:=true,results:=[.tmp 4],rtys:=[23],blks:=[(0,q_cl N)],regs:=[(2,q_ck N),(12,q_cm N)],masks:=[(0,20480)] }
noncomputable def b_cn:Code:=match Tryz.f45.body with | some c=>c | none=>.skip
noncomputable def n_ck:Code:=(.seq (wq b_cn [1,1,0,0]) (wq b_cn [1,1,0,1]))
noncomputable def n_cl:Code:=(.block 0 (.loop (wq b_cn [1,1,1,1,1,0,1,0,0])))
noncomputable def n_cm:Code:=(.seq (wq b_cn [1,1,1,1,1,1,0,0]) (wq b_cn [1,1,1,1,1,1,0,1]))
theorem e_ck (v:p_ck.V) (K:KO α):wcK env (ct67 N) (i_cn N) 1029 n_ck (p_ck.mk' v) K=g_ck N v K:=Eq.trans (b:=z_ck N @wdR.b v K) (by kernel_rfl) (by unfold g_ck; rw [wdR.eq])
theorem o_ck (N:Nat):wv gd P (i_cn N) n_ck (q_ck N) :=
 wG hE hP (wqi N) (wn.of (by kernel_rfl) .nil) (wn.of (by kernel_rfl) .nil) (e_ck N)
theorem e_cl (n:Nat) (v:p_cl.V) (K:KO α):wbe env (ct67 N) (i_cn N) 87045 (wj 87045 p_cl (g_cl N n)).run n_cl (p_cl.mk' v) K=g_cl N (n + 1) v K:=Eq.trans (b:=z_cl (fun x0 x1 x2 x3 x4 x5 k0=>wgp N (fun y0 y1 y2 y3 y4 y5=>wca N n y0 y1 y2 y3 y4 y5 k0) k0 x0 x1 x2 x3 x4 x5) v K) (by kernel_rfl) (by unfold g_cl z_cl; rw [wca.succ])
theorem o_cl (N:Nat):wv gd P (i_cn N) n_cl (q_cl N) :=
 wI hE hP (wqi N) (wn.of (by kernel_rfl) .nil) (fun n {_}=>g_cl N n) (fun _ _=>wca.zero ..) (fun n {_} v K=>e_cl N n v K) N
theorem e_cm (v:p_cm.V) (K:KO α):wcK env (ct67 N) (i_cn N) 4096 n_cm (p_cm.mk' v) K=g_cm N v K:=Eq.trans (b:=z_cm N @wdQ.b v K) (by kernel_rfl) (by unfold g_cm; rw [wdQ.eq])
theorem o_cm (N:Nat):wv gd P (i_cn N) n_cm (q_cm N) :=
 wG hE hP (wqi N) (wn.of (by kernel_rfl) .nil) (wn.of (by kernel_rfl) .nil) (e_cm N)
noncomputable def p_cn:Pt:=⟨[(.i (.sl (.int .i64))),(.i (.sl (.int .i64)))],[]⟩
noncomputable def z_cn (F:type_of% @weK) (v:p_cn.V) (K:KF α):Option α:=F N v.1.1 v.1.2.1 (fun o0_0=>K (.own 0) [(.arr 3 (.int .i64) o0_0 false)])
noncomputable def g_cn (v:p_cn.V) (K:KF α):Option α:=z_cn N @weK v K
theorem e_cn (v:p_cn.V) (K:KF α):wbB env (ct67 N) (i_cn N) Tryz.f45 (SP.mkL p_cn.slots v.1) (BP.mkL p_cn.store v.2) K=g_cn N v K:=Eq.trans (b:=z_cn N @weK.b v K) (by kernel_rfl) (by unfold g_cn; rw [weK.eq])
theorem o_cn (N:Nat):wk gd P 45 (wa false p_cn (g_cn N)) :=
 wh fun v K h=>wJ hE hP (wqi N) Tryz.func45 (by kernel_rfl) (body:=b_cn) (by kernel_rfl) (by kernel_rfl) (wn.of (by kernel_rfl) (.cons (o_ck N) (.cons (o_cl N) (.cons (o_cm N) .nil)))) (loans:=BP.mkL p_cn.store v.2) rfl ((e_cn N v K).trans h)
noncomputable def ct68 (N:Nat):CT:=(45,(wa false p_cn (g_cn N)))::ct67 N
theorem wtJ (N:Nat):CTOK gd P (ct68 N):=.cons (o_cn N) (wqi N)

noncomputable def p_co:Pt:=⟨(.i (.int .i64))::.u::.u::(.o 0)::(.i (.int .i64))::ups 9 ([]),[(.arr 3 (.int .i64) false)]⟩
noncomputable def z_co (F:type_of% (@wbL α 0 0)) (v:p_co.V) (K:KO α):Option α:=F v.1.1 v.1.2.2.2.2.1 v.2.1 (fun o0_0=>K (.normal ⟨U::U::U::(.own 0)::us 10 ([]),[(.arr 3 (.int .i64) o0_0 false)]⟩))
noncomputable def g_co (n:Nat) (v:p_co.V) (K:KO α):Option α:=z_co (wbL N n) v K
noncomputable def q_co (N:Nat):Piece:=(wj 321 p_co (g_co N N))
noncomputable def i_cp (N:Nat):Fi:={ loans:=0,owns:=true,results:=[.tmp 2],rtys:=[23],blks:=[(0,q_co N)],regs:=[],masks:=[(0,64)] }
noncomputable def b_cp:Code:=match Tryz.f50.body with | some c=>c | none=>.skip
noncomputable def n_co:Code:=(.block 0 (.loop (wq b_cp [1,1,0,1,0,0])))
theorem e_co (n:Nat) (v:p_co.V) (K:KO α):wbe env (ct68 N) (i_cp N) 321 (wj 321 p_co (g_co N n)).run n_co (p_co.mk' v) K=g_co N (n + 1) v K:=Eq.trans (b:=z_co (fun x0 x1 x2 k0=>wf4 N (fun y0 y1 y2=>wbL N n y0 y1 y2 k0) k0 x0 x1 x2) v K) (by kernel_rfl) (by unfold g_co z_co; rw [wbL.succ])
theorem o_co (N:Nat):wv gd P (i_cp N) n_co (q_co N) :=
 wI hE hP (wtJ N) (wn.of (by kernel_rfl) .nil) (fun n {_}=>g_co N n) (fun _ _=>wbL.zero ..) (fun n {_} v K=>e_co N n v K) N
noncomputable def p_cp:Pt:=⟨[(.i (.int .i64))],[]⟩
noncomputable def z_cp (F:type_of% @wet) (v:p_cp.V) (K:KF α):Option α:=F N v.1.1 (fun o0_0=>K (.own 0) [(.arr 3 (.int .i64) o0_0 false)])
noncomputable def g_cp (v:p_cp.V) (K:KF α):Option α:=z_cp N @wet v K
theorem e_cp (v:p_cp.V) (K:KF α):wbB env (ct68 N) (i_cp N) Tryz.f50 (SP.mkL p_cp.slots v.1) (BP.mkL p_cp.store v.2) K=g_cp N v K:=Eq.trans (b:=z_cp N @wet.b v K) (by kernel_rfl) (by unfold g_cp; rw [wet.eq])
theorem o_cp (N:Nat):wk gd P 50 (wa false p_cp (g_cp N)) :=
 wh fun v K h=>wJ hE hP (wtJ N) Tryz.func50 (by kernel_rfl) (body:=b_cp) (by kernel_rfl) (by kernel_rfl) (wn.of (by kernel_rfl) (.cons (o_co N) .nil)) (loans:=BP.mkL p_cp.store v.2) rfl ((e_cp N v K).trans h)
noncomputable def ct69 (N:Nat):CT:=(50,(wa false p_cp (g_cp N)))::ct68 N
theorem wtf (N:Nat):CTOK gd P (ct69 N):=.cons (o_cp N) (wtJ N)

noncomputable def p_cq:Pt:=⟨(.i (.sl (.int .i64)))::(.i (.sl (.int .i64)))::.u::.u::.u::(.i (.int .i64))::ups 35 ([]),[]⟩
noncomputable def z_cq (F:type_of% (@wcc α 0 0)) (v:p_cq.V) (K:KO α):Option α:=F v.1.1 v.1.2.1 v.1.2.2.2.2.2.1 (fun o0_0=>K (.ret (.iv (.int .i64) o0_0) [])) (K (.normal ⟨us 41 ([]),[]⟩))
noncomputable def g_cq (n:Nat) (v:p_cq.V) (K:KO α):Option α:=z_cq (wcc N n) v K
noncomputable def q_cq (N:Nat):Piece:=(wj 1029 p_cq (g_cq N N))
noncomputable def i_cr (N:Nat):Fi:={ loans:=0,owns:=true,results:=[.tmp 4],rtys:=[3],blks:=[(0,q_cq N)],regs:=[],masks:=[(0,0)] }
noncomputable def b_cr:Code:=match Tryz.f115.body with | some c=>c | none=>.skip
noncomputable def n_cq:Code:=(.block 0 (.loop (wq b_cr [1,1,1,0,1,0,0])))
theorem e_cq (n:Nat) (v:p_cq.V) (K:KO α):wbe env (ct69 N) (i_cr N) 1029 (wj 1029 p_cq (g_cq N n)).run n_cq (p_cq.mk' v) K=g_cq N (n + 1) v K:=Eq.trans (b:=z_cq (fun x0 x1 x2 k0 k1=>wgq N (fun y0 y1 y2=>wcc N n y0 y1 y2 k0 k1) k0 k1 x0 x1 x2) v K) (by kernel_rfl) (by unfold g_cq z_cq; rw [wcc.succ])
theorem o_cq (N:Nat):wv gd P (i_cr N) n_cq (q_cq N) :=
 wI hE hP (wtf N) (wn.of (by kernel_rfl) .nil) (fun n {_}=>g_cq N n) (fun _ _=>wcc.zero ..) (fun n {_} v K=>e_cq N n v K) N
noncomputable def p_cr:Pt:=⟨[(.i (.sl (.int .i64))),(.i (.sl (.int .i64)))],[]⟩
noncomputable def z_cr (F:type_of% @weP) (v:p_cr.V) (K:KF α):Option α:=F N v.1.1 v.1.2.1 (fun o0_0=>K (.iv (.int .i64) o0_0) [])
noncomputable def g_cr (v:p_cr.V) (K:KF α):Option α:=z_cr N @weP v K
theorem e_cr (v:p_cr.V) (K:KF α):wbB env (ct69 N) (i_cr N) Tryz.f115 (SP.mkL p_cr.slots v.1) (BP.mkL p_cr.store v.2) K=g_cr N v K:=Eq.trans (b:=z_cr N @weP.b v K) (by kernel_rfl) (by unfold g_cr; rw [weP.eq])
theorem o_cr (N:Nat):wk gd P 115 (wa false p_cr (g_cr N)) :=
 wh fun v K h=>wJ hE hP (wtf N) Tryz.func115 (by kernel_rfl) (body:=b_cr) (by kernel_rfl) (by kernel_rfl) (wn.of (by kernel_rfl) (.cons (o_cq N) .nil)) (loans:=BP.mkL p_cr.store v.2) rfl ((e_cr N v K).trans h)
noncomputable def ct70 (N:Nat):CT:=(115,(wa false p_cr (g_cr N)))::ct69 N
theorem wtC (N:Nat):CTOK gd P (ct70 N):=.cons (o_cr N) (wtf N)

noncomputable def p_cs:Pt:=⟨(.i (.sl (.int .i64)))::ups 4 ((.o 0)::(.i (.int .i64))::ups 15 ([])),[(.arr 3 (.int .i64) false)]⟩
noncomputable def z_cs (F:type_of% (@wb7 α 0 0)) (v:p_cs.V) (K:KO α):Option α:=F v.1.1 (nx 4 v.1.2).2.1 v.2.1 (fun o0_0=>K (.normal ⟨us 5 ((.own 0)::us 16 ([])),[(.arr 3 (.int .i64) o0_0 false)]⟩))
noncomputable def g_cs (n:Nat) (v:p_cs.V) (K:KO α):Option α:=z_cs (wb7 N n) v K
noncomputable def q_cs (N:Nat):Piece:=(wj 5121 p_cs (g_cs N N))
noncomputable def i_ct (N:Nat):Fi:={ loans:=0,owns:=true,results:=[.tmp 4],rtys:=[23],blks:=[(0,q_cs N)],regs:=[],masks:=[(0,1024)] }
noncomputable def b_ct:Code:=match Tryz.f117.body with | some c=>c | none=>.skip
noncomputable def n_cs:Code:=(.block 0 (.loop (wq b_ct [1,1,0,1,0,0])))
theorem e_cs (n:Nat) (v:p_cs.V) (K:KO α):wbe env (ct70 N) (i_ct N) 5121 (wj 5121 p_cs (g_cs N n)).run n_cs (p_cs.mk' v) K=g_cs N (n + 1) v K:=Eq.trans (b:=z_cs (fun x0 x1 x2 k0=>wgw N (fun y0 y1 y2=>wb7 N n y0 y1 y2 k0) k0 x0 x1 x2) v K) (by kernel_rfl) (by unfold g_cs z_cs; rw [wb7.succ])
theorem o_cs (N:Nat):wv gd P (i_ct N) n_cs (q_cs N) :=
 wI hE hP (wtC N) (wn.of (by kernel_rfl) .nil) (fun n {_}=>g_cs N n) (fun _ _=>wb7.zero ..) (fun n {_} v K=>e_cs N n v K) N
noncomputable def p_ct:Pt:=⟨[(.i (.sl (.int .i64))),(.i (.int .i64))],[]⟩
noncomputable def z_ct (F:type_of% @we8) (v:p_ct.V) (K:KF α):Option α:=F N v.1.1 v.1.2.1 (fun o0_0=>K (.own 0) [(.arr 3 (.int .i64) o0_0 false)])
noncomputable def g_ct (v:p_ct.V) (K:KF α):Option α:=z_ct N @we8 v K
theorem e_ct (v:p_ct.V) (K:KF α):wbB env (ct70 N) (i_ct N) Tryz.f117 (SP.mkL p_ct.slots v.1) (BP.mkL p_ct.store v.2) K=g_ct N v K:=Eq.trans (b:=z_ct N @we8.b v K) (by kernel_rfl) (by unfold g_ct; rw [we8.eq])
theorem o_ct (N:Nat):wk gd P 117 (wa false p_ct (g_ct N)) :=
 wh fun v K h=>wJ hE hP (wtC N) Tryz.func117 (by kernel_rfl) (body:=b_ct) (by kernel_rfl) (by kernel_rfl) (wn.of (by kernel_rfl) (.cons (o_cs N) .nil)) (loans:=BP.mkL p_ct.store v.2) rfl ((e_ct N v K).trans h)
noncomputable def ct71 (N:Nat):CT:=(117,(wa false p_ct (g_ct N)))::ct70 N
theorem wtE (N:Nat):CTOK gd P (ct71 N):=.cons (o_ct N) (wtC N)

noncomputable def p_cu:Pt:=⟨(.i (.sl (.int .i64)))::ups 4 ((.o 0)::(.i (.int .i64))::ups 19 ([])),[(.arr 3 (.int .i64) false)]⟩
noncomputable def z_cu (F:type_of% (@wb8 α 0 0)) (v:p_cu.V) (K:KO α):Option α:=F v.1.1 (nx 4 v.1.2).2.1 v.2.1 (fun o0_0=>K (.normal ⟨us 5 ((.own 0)::us 20 ([])),[(.arr 3 (.int .i64) o0_0 false)]⟩))
noncomputable def g_cu (n:Nat) (v:p_cu.V) (K:KO α):Option α:=z_cu (wb8 N n) v K
noncomputable def q_cu (N:Nat):Piece:=(wj 5121 p_cu (g_cu N N))
noncomputable def i_cv (N:Nat):Fi:={ loans:=0,owns:=true,results:=[.tmp 4],rtys:=[23],blks:=[(0,q_cu N)],regs:=[],masks:=[(0,1024)] }
noncomputable def b_cv:Code:=match Tryz.f118.body with | some c=>c | none=>.skip
noncomputable def n_cu:Code:=(.block 0 (.loop (wq b_cv [1,1,1,0,1,0,0])))
theorem e_cu (n:Nat) (v:p_cu.V) (K:KO α):wbe env (ct71 N) (i_cv N) 5121 (wj 5121 p_cu (g_cu N n)).run n_cu (p_cu.mk' v) K=g_cu N (n + 1) v K:=Eq.trans (b:=z_cu (fun x0 x1 x2 k0=>wgu N (fun y0 y1 y2=>wb8 N n y0 y1 y2 k0) k0 x0 x1 x2) v K) (by kernel_rfl) (by unfold g_cu z_cu; rw [wb8.succ])
theorem o_cu (N:Nat):wv gd P (i_cv N) n_cu (q_cu N) :=
 wI hE hP (wtE N) (wn.of (by kernel_rfl) .nil) (fun n {_}=>g_cu N n) (fun _ _=>wb8.zero ..) (fun n {_} v K=>e_cu N n v K) N
noncomputable def p_cv:Pt:=⟨[(.i (.sl (.int .i64))),(.i (.int .i64))],[]⟩
noncomputable def z_cv (F:type_of% @weN) (v:p_cv.V) (K:KF α):Option α:=F N v.1.1 v.1.2.1 (fun o0_0=>K (.own 0) [(.arr 3 (.int .i64) o0_0 false)])
noncomputable def g_cv (v:p_cv.V) (K:KF α):Option α:=z_cv N @weN v K
theorem e_cv (v:p_cv.V) (K:KF α):wbB env (ct71 N) (i_cv N) Tryz.f118 (SP.mkL p_cv.slots v.1) (BP.mkL p_cv.store v.2) K=g_cv N v K:=Eq.trans (b:=z_cv N @weN.b v K) (by kernel_rfl) (by unfold g_cv; rw [weN.eq])
theorem o_cv (N:Nat):wk gd P 118 (wa false p_cv (g_cv N)) :=
 wh fun v K h=>wJ hE hP (wtE N) Tryz.func118 (by kernel_rfl) (body:=b_cv) (by kernel_rfl) (by kernel_rfl) (wn.of (by kernel_rfl) (.cons (o_cu N) .nil)) (loans:=BP.mkL p_cv.store v.2) rfl ((e_cv N v K).trans h)
noncomputable def ct72 (N:Nat):CT:=(118,(wa false p_cv (g_cv N)))::ct71 N
theorem wrC (N:Nat):CTOK gd P (ct72 N):=.cons (o_cv N) (wtE N)

noncomputable def p_cw:Pt:=⟨(.i (.sl (.int .i64)))::(.i (.sl (.int .i64)))::.u::.u::.u::(.o 0)::(.i (.int .i64))::(.i (.int .i64))::(.i (.int .i64))::ups 26 ([]),[(.arr 3 (.int .i64) false)]⟩
noncomputable def z_cw (F:type_of% @wdz) (v:p_cw.V) (K:KO α):Option α:=F N v.1.1 v.1.2.1 v.1.2.2.2.2.2.2.1 v.1.2.2.2.2.2.2.2.1 v.1.2.2.2.2.2.2.2.2.1 v.2.1 (fun o0_0 o0_1 o0_2 o0_3 o0_4 o0_5=>K (.normal ⟨(.iv (.sl (.int .i64)) o0_0)::(.iv (.sl (.int .i64)) o0_1)::U::U::U::(.own 0)::(.iv (.int .i64) o0_2)::(.iv (.int .i64) o0_3)::(.iv (.int .i64) o0_4)::us 26 ([]),[(.arr 3 (.int .i64) o0_5 false)]⟩))
noncomputable def g_cw (v:p_cw.V) (K:KO α):Option α:=z_cw N @wdz v K
noncomputable def p_cx:Pt:=⟨(.i (.sl (.int .i64)))::(.i (.sl (.int .i64)))::.u::.u::.u::(.o 0)::(.i (.int .i64))::(.i (.int .i64))::ups 27 ([]),[(.arr 3 (.int .i64) false)]⟩
noncomputable def z_cx (F:type_of% (@wbP α 0 0)) (v:p_cx.V) (K:KO α):Option α:=F v.1.1 v.1.2.1 v.1.2.2.2.2.2.2.1 v.1.2.2.2.2.2.2.2.1 v.2.1 (fun o0_0=>K (.normal ⟨us 5 ((.own 0)::us 29 ([])),[(.arr 3 (.int .i64) o0_0 false)]⟩))
noncomputable def g_cx (n:Nat) (v:p_cx.V) (K:KO α):Option α:=z_cx (wbP N n) v K
noncomputable def q_cw (N:Nat):Piece:=(wj 87045 p_cw (g_cw N))
noncomputable def q_cx (N:Nat):Piece:=(wj 21509 p_cx (g_cx N N))
noncomputable def i_cy (N:Nat):Fi:={ loans:=0,owns:=true,results:=[.tmp 4],rtys:=[23],blks:=[(0,q_cx N)],regs:=[(8,q_cw N)],masks:=[(0,1024)] }
noncomputable def b_cy:Code:=match Tryz.f119.body with | some c=>c | none=>.skip
noncomputable def n_cw:Code:=(.seq (wq b_cy [1,1,1,0,1,0,0,1,0,0,1,1,0,0]) (wq b_cy [1,1,1,0,1,0,0,1,0,0,1,1,0,1]))
noncomputable def n_cx:Code:=(.block 0 (.loop (wq b_cy [1,1,1,0,1,0,0])))
theorem e_cw (v:p_cw.V) (K:KO α):wcK env (ct72 N) (i_cy N) 87045 n_cw (p_cw.mk' v) K=g_cw N v K:=Eq.trans (b:=z_cw N @wdz.b v K) (by kernel_rfl) (by unfold g_cw; rw [wdz.eq])
theorem o_cw (N:Nat):wv gd P (i_cy N) n_cw (q_cw N) :=
 wG hE hP (wrC N) (wn.of (by kernel_rfl) .nil) (wn.of (by kernel_rfl) .nil) (e_cw N)
theorem e_cx (n:Nat) (v:p_cx.V) (K:KO α):wbe env (ct72 N) (i_cy N) 21509 (wj 21509 p_cx (g_cx N n)).run n_cx (p_cx.mk' v) K=g_cx N (n + 1) v K:=Eq.trans (b:=z_cx (fun x0 x1 x2 x3 x4 k0=>wfP N (fun y0 y1 y2 y3 y4=>wbP N n y0 y1 y2 y3 y4 k0) k0 x0 x1 x2 x3 x4) v K) (by kernel_rfl) (by unfold g_cx z_cx; rw [wbP.succ])
theorem o_cx (N:Nat):wv gd P (i_cy N) n_cx (q_cx N) :=
 wI hE hP (wrC N) (wn.of (by kernel_rfl) (.cons (o_cw N) .nil)) (fun n {_}=>g_cx N n) (fun _ _=>wbP.zero ..) (fun n {_} v K=>e_cx N n v K) N
noncomputable def p_cy:Pt:=⟨[(.i (.sl (.int .i64))),(.i (.sl (.int .i64)))],[]⟩
noncomputable def z_cy (F:type_of% @wev) (v:p_cy.V) (K:KF α):Option α:=F N v.1.1 v.1.2.1 (fun o0_0=>K (.own 0) [(.arr 3 (.int .i64) o0_0 false)])
noncomputable def g_cy (v:p_cy.V) (K:KF α):Option α:=z_cy N @wev v K
theorem e_cy (v:p_cy.V) (K:KF α):wbB env (ct72 N) (i_cy N) Tryz.f119 (SP.mkL p_cy.slots v.1) (BP.mkL p_cy.store v.2) K=g_cy N v K:=Eq.trans (b:=z_cy N @wev.b v K) (by kernel_rfl) (by unfold g_cy; rw [wev.eq])
theorem o_cy (N:Nat):wk gd P 119 (wa false p_cy (g_cy N)) :=
 wh fun v K h=>wJ hE hP (wrC N) Tryz.func119 (by kernel_rfl) (body:=b_cy) (by kernel_rfl) (by kernel_rfl) (wn.of (by kernel_rfl) (.cons (o_cx N) .nil)) (loans:=BP.mkL p_cy.store v.2) rfl ((e_cy N v K).trans h)
noncomputable def ct73 (N:Nat):CT:=(119,(wa false p_cy (g_cy N)))::ct72 N
theorem wqv (N:Nat):CTOK gd P (ct73 N):=.cons (o_cy N) (wrC N)

noncomputable def p_cz:Pt:=⟨ups 8 ((.i (.int .i64))::(.o 0)::(.o 1)::(.i (.int .i64))::(.o 2)::(.o 3)::(.i (.int .i64))::(.i (.int .i64))::ups 116 ([])),[(.arr 3 (.int .i64) false),(.arr 3 (.int .i64) false),(.arr 3 (.int .i64) false),(.arr 3 (.int .i64) false)]⟩
noncomputable def z_cz (F:type_of% @wdl) (v:p_cz.V) (K:KO α):Option α:=F N (nx 8 v.1).1 (nx 8 v.1).2.2.2.1 (nx 8 v.1).2.2.2.2.2.2.1 (nx 8 v.1).2.2.2.2.2.2.2.1 v.2.1 v.2.2.1 v.2.2.2.1 v.2.2.2.2.1 (fun o0_0 o0_1 o0_2 o0_3 o0_4 o0_5 o0_6 o0_7=>K (.normal ⟨us 8 ((.iv (.int .i64) o0_0)::(.own 0)::(.own 1)::(.iv (.int .i64) o0_1)::(.own 2)::(.own 3)::(.iv (.int .i64) o0_2)::(.iv (.int .i64) o0_3)::us 116 ([])),[(.arr 3 (.int .i64) o0_4 false),(.arr 3 (.int .i64) o0_5 false),(.arr 3 (.int .i64) o0_6 false),(.arr 3 (.int .i64) o0_7 false)]⟩))
noncomputable def g_cz (v:p_cz.V) (K:KO α):Option α:=z_cz N @wdl v K
noncomputable def p_cA:Pt:=⟨ups 8 ((.i (.int .i64))::(.o 0)::(.o 1)::(.i (.int .i64))::(.o 2)::(.o 3)::(.i (.int .i64))::(.i (.int .i64))::(.o 4)::ups 115 ([])),[(.arr 3 (.int .i64) false),(.arr 3 (.int .i64) false),(.arr 3 (.int .i64) false),(.arr 3 (.int .i64) false),(.arr 3 (.int .i64) false)]⟩
noncomputable def z_cA (F:type_of% (@wcj α 0 0)) (v:p_cA.V) (K:KO α):Option α:=F (nx 8 v.1).1 (nx 8 v.1).2.2.2.1 (nx 8 v.1).2.2.2.2.2.2.1 (nx 8 v.1).2.2.2.2.2.2.2.1 v.2.1 v.2.2.1 v.2.2.2.1 v.2.2.2.2.1 v.2.2.2.2.2.1 (fun o0_0 o0_1 o0_2 o0_3 o0_4 o0_5 o0_6 o0_7 o0_8=>K (.normal ⟨us 8 ((.iv (.int .i64) o0_0)::(.own 0)::(.own 1)::(.iv (.int .i64) o0_1)::(.own 2)::(.own 3)::(.iv (.int .i64) o0_2)::(.iv (.int .i64) o0_3)::(.own 4)::us 115 ([])),[(.arr 3 (.int .i64) o0_4 false),(.arr 3 (.int .i64) o0_5 false),(.arr 3 (.int .i64) o0_6 false),(.arr 3 (.int .i64) o0_7 false),(.arr 3 (.int .i64) o0_8 false)]⟩))
noncomputable def g_cA (n:Nat) (v:p_cA.V) (K:KO α):Option α:=z_cA (wcj N n) v K
noncomputable def p_cB:Pt:=⟨ups 8 ((.i (.int .i64))::(.o 0)::(.o 1)::(.i (.int .i64))::(.o 2)::(.o 3)::(.i (.int .i64))::ups 117 ([])),[(.arr 3 (.int .i64) false),(.arr 3 (.int .i64) false),(.arr 3 (.int .i64) false),(.arr 3 (.int .i64) false)]⟩
noncomputable def z_cB (F:type_of% (@wb9 α 0 0)) (v:p_cB.V) (K:KO α):Option α:=F (nx 8 v.1).1 (nx 8 v.1).2.2.2.1 (nx 8 v.1).2.2.2.2.2.2.1 v.2.1 v.2.2.1 v.2.2.2.1 v.2.2.2.2.1 (fun o0_0 o0_1 o0_2=>K (.normal ⟨us 8 ((.iv (.int .i64) o0_0)::U::U::U::(.own 0)::(.own 1)::us 118 ([])),[(.arr 3 (.int .i64) o0_1 false),(.arr 3 (.int .i64) o0_2 false)]⟩))
noncomputable def g_cB (n:Nat) (v:p_cB.V) (K:KO α):Option α:=z_cB (wb9 N n) v K
noncomputable def q_cz (N:Nat):Piece:=(wj 1431633920 p_cz (g_cz N))
noncomputable def q_cA (N:Nat):Piece:=(wj 5726601216 p_cA (g_cA N N))
noncomputable def q_cB (N:Nat):Piece:=(wj 357892096 p_cB (g_cB N N))
noncomputable def i_cC (N:Nat):Fi:={ loans:=0,owns:=true,results:=[.tmp 4,.tmp 5],rtys:=[23,23],blks:=[(2,q_cA N),(0,q_cB N)],regs:=[(17,q_cz N)],masks:=[(0,83951616),(2,5726601216)] }
noncomputable def b_cC:Code:=match Tryz.f67.body with | some c=>c | none=>.skip
noncomputable def n_cz:Code:=(.seq (wq b_cC [1,1,1,1,1,1,1,1,1,0,1,0,0,1,0,0,1,1,0,0]) (wq b_cC [1,1,1,1,1,1,1,1,1,0,1,0,0,1,0,0,1,1,0,1]))
noncomputable def n_cA:Code:=(.block 2 (.loop (wq b_cC [1,1,1,1,1,1,1,1,1,0,1,0,0,1,0,0,1,1,1,1,0,0,0])))
noncomputable def n_cB:Code:=(.block 0 (.loop (wq b_cC [1,1,1,1,1,1,1,1,1,0,1,0,0])))
theorem e_cz (v:p_cz.V) (K:KO α):wcK env (ct73 N) (i_cC N) 1431633920 n_cz (p_cz.mk' v) K=g_cz N v K:=Eq.trans (b:=z_cz N @wdl.b v K) (by kernel_rfl) (by unfold g_cz; rw [wdl.eq])
theorem o_cz (N:Nat):wv gd P (i_cC N) n_cz (q_cz N) :=
 wG hE hP (wqv N) (wn.of (by kernel_rfl) .nil) (wn.of (by kernel_rfl) .nil) (e_cz N)
theorem e_cA (n:Nat) (v:p_cA.V) (K:KO α):wbe env (ct73 N) (i_cC N) 5726601216 (wj 5726601216 p_cA (g_cA N n)).run n_cA (p_cA.mk' v) K=g_cA N (n + 1) v K:=Eq.trans (b:=z_cA (fun x0 x1 x2 x3 x4 x5 x6 x7 x8 k0=>wg4 N (fun y0 y1 y2 y3 y4 y5 y6 y7 y8=>wcj N n y0 y1 y2 y3 y4 y5 y6 y7 y8 k0) k0 x0 x1 x2 x3 x4 x5 x6 x7 x8) v K) (by kernel_rfl) (by unfold g_cA z_cA; rw [wcj.succ])
theorem o_cA (N:Nat):wv gd P (i_cC N) n_cA (q_cA N) :=
 wI hE hP (wqv N) (wn.of (by kernel_rfl) .nil) (fun n {_}=>g_cA N n) (fun _ _=>wcj.zero ..) (fun n {_} v K=>e_cA N n v K) N
theorem e_cB (n:Nat) (v:p_cB.V) (K:KO α):wbe env (ct73 N) (i_cC N) 357892096 (wj 357892096 p_cB (g_cB N n)).run n_cB (p_cB.mk' v) K=g_cB N (n + 1) v K:=Eq.trans (b:=z_cB (fun x0 x1 x2 x3 x4 x5 x6 k0=>wgr N (fun y0 y1 y2 y3 y4 y5 y6=>wb9 N n y0 y1 y2 y3 y4 y5 y6 k0) k0 x0 x1 x2 x3 x4 x5 x6) v K) (by kernel_rfl) (by unfold g_cB z_cB; rw [wb9.succ])
theorem o_cB (N:Nat):wv gd P (i_cC N) n_cB (q_cB N) :=
 wI hE hP (wqv N) (wn.of (by kernel_rfl) (.cons (o_cz N) (.cons (o_cA N) .nil))) (fun n {_}=>g_cB N n) (fun _ _=>wb9.zero ..) (fun n {_} v K=>e_cB N n v K) N
noncomputable def p_cC:Pt:=⟨[(.i (.sl (.int .i64))),(.i (.sl (.int .i64)))],[]⟩
noncomputable def z_cC (F:type_of% @wew) (v:p_cC.V) (K:KF α):Option α:=F N v.1.1 v.1.2.1 (fun o0_0 o0_1=>K (.tuple [(.own 0),(.own 1)]) [(.arr 3 (.int .i64) o0_0 false),(.arr 3 (.int .i64) o0_1 false)])
noncomputable def g_cC (v:p_cC.V) (K:KF α):Option α:=z_cC N @wew v K
theorem e_cC (v:p_cC.V) (K:KF α):wbB env (ct73 N) (i_cC N) Tryz.f67 (SP.mkL p_cC.slots v.1) (BP.mkL p_cC.store v.2) K=g_cC N v K:=Eq.trans (b:=z_cC N @wew.b v K) (by kernel_rfl) (by unfold g_cC; rw [wew.eq])
theorem o_cC (N:Nat):wk gd P 67 (wa false p_cC (g_cC N)) :=
 wh fun v K h=>wJ hE hP (wqv N) Tryz.func67 (by kernel_rfl) (body:=b_cC) (by kernel_rfl) (by kernel_rfl) (wn.of (by kernel_rfl) (.cons (o_cB N) .nil)) (loans:=BP.mkL p_cC.store v.2) rfl ((e_cC N v K).trans h)
noncomputable def ct74 (N:Nat):CT:=(67,(wa false p_cC (g_cC N)))::ct73 N
theorem wto (N:Nat):CTOK gd P (ct74 N):=.cons (o_cC N) (wqv N)

noncomputable def p_cD:Pt:=⟨ups 5 ((.o 0)::(.o 1)::ups 18 ([])),[(.arr 3 (.int .i64) false),(.arr 3 (.int .i64) false)]⟩
noncomputable def z_cD (F:type_of% (@wcl α 0 0)) (v:p_cD.V) (K:KO α):Option α:=F v.2.1 v.2.2.1 (fun o0_0=>K (.normal ⟨us 5 ((.own 0)::us 19 ([])),[(.arr 3 (.int .i64) o0_0 false)]⟩))
noncomputable def g_cD (n:Nat) (v:p_cD.V) (K:KO α):Option α:=z_cD (wcl N n) v K
noncomputable def q_cD (N:Nat):Piece:=(wj 5120 p_cD (g_cD N N))
noncomputable def i_cE (N:Nat):Fi:={ loans:=0,owns:=true,results:=[.tmp 4],rtys:=[23],blks:=[(0,q_cD N)],regs:=[],masks:=[(0,1024)] }
noncomputable def b_cE:Code:=match Tryz.f30.body with | some c=>c | none=>.skip
noncomputable def n_cD:Code:=(.block 0 (.loop (wq b_cE [1,1,1,0,0,0])))
theorem e_cD (n:Nat) (v:p_cD.V) (K:KO α):wbe env (ct74 N) (i_cE N) 5120 (wj 5120 p_cD (g_cD N n)).run n_cD (p_cD.mk' v) K=g_cD N (n + 1) v K:=Eq.trans (b:=z_cD (fun x0 x1 k0=>wg5 N (fun y0 y1=>wcl N n y0 y1 k0) k0 x0 x1) v K) (by kernel_rfl) (by unfold g_cD z_cD; rw [wcl.succ])
theorem o_cD (N:Nat):wv gd P (i_cE N) n_cD (q_cD N) :=
 wI hE hP (wto N) (wn.of (by kernel_rfl) .nil) (fun n {_}=>g_cD N n) (fun _ _=>wcl.zero ..) (fun n {_} v K=>e_cD N n v K) N
noncomputable def p_cE:Pt:=⟨[(.i (.sl (.int .i64))),(.i (.sl (.int .i64)))],[]⟩
noncomputable def z_cE (F:type_of% @weL) (v:p_cE.V) (K:KF α):Option α:=F N v.1.1 v.1.2.1 (fun o0_0=>K (.own 0) [(.arr 3 (.int .i64) o0_0 false)])
noncomputable def g_cE (v:p_cE.V) (K:KF α):Option α:=z_cE N @weL v K
theorem e_cE (v:p_cE.V) (K:KF α):wbB env (ct74 N) (i_cE N) Tryz.f30 (SP.mkL p_cE.slots v.1) (BP.mkL p_cE.store v.2) K=g_cE N v K:=Eq.trans (b:=z_cE N @weL.b v K) (by kernel_rfl) (by unfold g_cE; rw [weL.eq])
theorem o_cE (N:Nat):wk gd P 30 (wa false p_cE (g_cE N)) :=
 wh fun v K h=>wJ hE hP (wto N) Tryz.func30 (by kernel_rfl) (body:=b_cE) (by kernel_rfl) (by kernel_rfl) (wn.of (by kernel_rfl) (.cons (o_cD N) .nil)) (loans:=BP.mkL p_cE.store v.2) rfl ((e_cE N v K).trans h)
noncomputable def ct75 (N:Nat):CT:=(30,(wa false p_cE (g_cE N)))::ct74 N
theorem wtS (N:Nat):CTOK gd P (ct75 N):=.cons (o_cE N) (wto N)

noncomputable def i_cF (N:Nat):Fi:={ loans:=0,owns:=true,results:=[.cell 6 25,.tmp 7],rtys:=[25,4],blks:=[],regs:=[],masks:=[] }
noncomputable def b_cF:Code:=match Tryz.f48.body with | some c=>c | none=>.skip
noncomputable def p_cF:Pt:=⟨[(.i .bool),(.i (.sl (.int .i64))),(.i (.sl (.int .i64)))],[]⟩
noncomputable def z_cF (F:type_of% @wdu) (v:p_cF.V) (K:KF α):Option α:=F N v.1.1 v.1.2.1 v.1.2.2.1 (fun o0_0 o0_1 o0_2 o0_3=>K (.tuple [(.agg [(.iv .bool o0_0),(.own 0),(.own 1)]),(.iv .bool o0_1)]) [(.arr 3 (.int .i64) o0_2 false),(.arr 3 (.int .i64) o0_3 false)])
noncomputable def g_cF (v:p_cF.V) (K:KF α):Option α:=z_cF N @wdu v K
theorem e_cF (v:p_cF.V) (K:KF α):wbB env (ct75 N) (i_cF N) Tryz.f48 (SP.mkL p_cF.slots v.1) (BP.mkL p_cF.store v.2) K=g_cF N v K:=Eq.trans (b:=z_cF N @wdu.b v K) (by kernel_rfl) (by unfold g_cF; rw [wdu.eq])
theorem o_cF (N:Nat):wk gd P 48 (wa false p_cF (g_cF N)) :=
 wh fun v K h=>wJ hE hP (wtS N) Tryz.func48 (by kernel_rfl) (body:=b_cF) (by kernel_rfl) (by kernel_rfl) (wn.of (by kernel_rfl) .nil) (loans:=BP.mkL p_cF.store v.2) rfl ((e_cF N v K).trans h)
noncomputable def ct76 (N:Nat):CT:=(48,(wa false p_cF (g_cF N)))::ct75 N
theorem wtK (N:Nat):CTOK gd P (ct76 N):=.cons (o_cF N) (wtS N)

noncomputable def p_cG:Pt:=⟨.u::.u::(.p 0 [] 0)::.u::(.i .str)::(.i (.int .i64))::(.i (.int .i64))::.u::(.o 1)::(.i (.int .i64))::ups 46 ([]),[(.box 25 (.a [(.i .bool),(.o 2),(.o 3)]) false),(.arr 3 (.int .i64) false),(.arr 3 (.int .i64) false),(.arr 3 (.int .i64) false)]⟩
noncomputable def z_cG (F:type_of% (@wbp α 0 0)) (v:p_cG.V) (K:KO α):Option α:=F v.1.2.2.2.2.1 v.1.2.2.2.2.2.1 v.1.2.2.2.2.2.2.1 v.1.2.2.2.2.2.2.2.2.2.1 v.2.1.1 v.2.2.1 v.2.2.2.1 v.2.2.2.2.1 (fun o0_0 o0_1 o0_2 o0_3 o0_4 o0_5=>K (.normal ⟨U::U::(.lp 0 [] 0)::U::U::(.iv (.int .i64) o0_0)::(.iv (.int .i64) o0_1)::U::(.own 1)::us 47 ([]),[(.box 25 (.agg [(.iv .bool o0_2),(.own 2),(.own 3)]) false),(.arr 3 (.int .i64) o0_3 false),(.arr 3 (.int .i64) o0_4 false),(.arr 3 (.int .i64) o0_5 false)]⟩))
noncomputable def g_cG (n:Nat) (v:p_cG.V) (K:KO α):Option α:=z_cG (wbp N n) v K
noncomputable def q_cG (N:Nat):Piece:=(wj 333072 p_cG (g_cG N N))
noncomputable def i_cH (N:Nat):Fi:={ loans:=0,owns:=true,results:=[.cell 2 25,.tmp 3],rtys:=[25,4],blks:=[(0,q_cG N)],regs:=[],masks:=[(0,70672)] }
noncomputable def b_cH:Code:=match Tryz.f17.body with | some c=>c | none=>.skip
noncomputable def n_cG:Code:=(.block 0 (.loop (wq b_cH [1,1,1,1,0,1,0,0])))
theorem e_cG (n:Nat) (v:p_cG.V) (K:KO α):wbe env (ct76 N) (i_cH N) 333072 (wj 333072 p_cG (g_cG N n)).run n_cG (p_cG.mk' v) K=g_cG N (n + 1) v K:=Eq.trans (b:=z_cG (fun x0 x1 x2 x3 x4 x5 x6 x7 k0=>wfL N (fun y0 y1 y2 y3 y4 y5 y6 y7=>wbp N n y0 y1 y2 y3 y4 y5 y6 y7 k0) k0 x0 x1 x2 x3 x4 x5 x6 x7) v K) (by kernel_rfl) (by unfold g_cG z_cG; rw [wbp.succ])
theorem o_cG (N:Nat):wv gd P (i_cH N) n_cG (q_cG N) :=
 wI hE hP (wtK N) (wn.of (by kernel_rfl) .nil) (fun n {_}=>g_cG N n) (fun _ _=>wbp.zero ..) (fun n {_} v K=>e_cG N n v K) N
noncomputable def p_cH:Pt:=⟨[(.i .str)],[]⟩
noncomputable def z_cH (F:type_of% @wd1) (v:p_cH.V) (K:KF α):Option α:=F N v.1.1 (fun o0_0 o0_1 o0_2 o0_3=>K (.tuple [(.agg [(.iv .bool o0_0),(.own 0),(.own 1)]),(.iv .bool o0_1)]) [(.arr 3 (.int .i64) o0_2 false),(.arr 3 (.int .i64) o0_3 false)])
noncomputable def g_cH (v:p_cH.V) (K:KF α):Option α:=z_cH N @wd1 v K
theorem e_cH (v:p_cH.V) (K:KF α):wbB env (ct76 N) (i_cH N) Tryz.f17 (SP.mkL p_cH.slots v.1) (BP.mkL p_cH.store v.2) K=g_cH N v K:=Eq.trans (b:=z_cH N @wd1.b v K) (by kernel_rfl) (by unfold g_cH; rw [wd1.eq])
theorem o_cH (N:Nat):wk gd P 17 (wa false p_cH (g_cH N)) :=
 wh fun v K h=>wJ hE hP (wtK N) Tryz.func17 (by kernel_rfl) (body:=b_cH) (by kernel_rfl) (by kernel_rfl) (wn.of (by kernel_rfl) (.cons (o_cG N) .nil)) (loans:=BP.mkL p_cH.store v.2) rfl ((e_cH N v K).trans h)
noncomputable def ct77 (N:Nat):CT:=(17,(wa false p_cH (g_cH N)))::ct76 N
theorem wuX (N:Nat):CTOK gd P (ct77 N):=.cons (o_cH N) (wtK N)

noncomputable def i_cI (N:Nat):Fi:={ loans:=0,owns:=true,results:=[.tmp 2],rtys:=[4],blks:=[],regs:=[],masks:=[] }
noncomputable def b_cI:Code:=match Tryz.f96.body with | some c=>c | none=>.skip
noncomputable def p_cI:Pt:=⟨[(.i (.int .i64))],[]⟩
noncomputable def z_cI (F:type_of% @wdO) (v:p_cI.V) (K:KF α):Option α:=F N v.1.1 (fun o0_0=>K (.iv .bool o0_0) [])
noncomputable def g_cI (v:p_cI.V) (K:KF α):Option α:=z_cI N @wdO v K
theorem e_cI (v:p_cI.V) (K:KF α):wbB env (ct77 N) (i_cI N) Tryz.f96 (SP.mkL p_cI.slots v.1) (BP.mkL p_cI.store v.2) K=g_cI N v K:=Eq.trans (b:=z_cI N @wdO.b v K) (by kernel_rfl) (by unfold g_cI; rw [wdO.eq])
theorem o_cI (N:Nat):wk gd P 96 (wa false p_cI (g_cI N)) :=
 wh fun v K h=>wJ hE hP (wuX N) Tryz.func96 (by kernel_rfl) (body:=b_cI) (by kernel_rfl) (by kernel_rfl) (wn.of (by kernel_rfl) .nil) (loans:=BP.mkL p_cI.store v.2) rfl ((e_cI N v K).trans h)
noncomputable def ct78 (N:Nat):CT:=(96,(wa false p_cI (g_cI N)))::ct77 N
theorem wtY (N:Nat):CTOK gd P (ct78 N):=.cons (o_cI N) (wuX N)

noncomputable def i_cJ (N:Nat):Fi:={ loans:=0,owns:=true,results:=[.tmp 2],rtys:=[4],blks:=[],regs:=[],masks:=[] }
noncomputable def b_cJ:Code:=match Tryz.f29.body with | some c=>c | none=>.skip
noncomputable def p_cJ:Pt:=⟨[(.i (.sl (.int .i64)))],[]⟩
noncomputable def z_cJ (F:type_of% @weV) (v:p_cJ.V) (K:KF α):Option α:=F N v.1.1 (fun o0_0=>K (.iv .bool o0_0) [])
noncomputable def g_cJ (v:p_cJ.V) (K:KF α):Option α:=z_cJ N @weV v K
theorem e_cJ (v:p_cJ.V) (K:KF α):wbB env (ct78 N) (i_cJ N) Tryz.f29 (SP.mkL p_cJ.slots v.1) (BP.mkL p_cJ.store v.2) K=g_cJ N v K:=Eq.trans (b:=z_cJ N @weV.b v K) (by kernel_rfl) (by unfold g_cJ; rw [weV.eq])
theorem o_cJ (N:Nat):wk gd P 29 (wa false p_cJ (g_cJ N)) :=
 wh fun v K h=>wJ hE hP (wtY N) Tryz.func29 (by kernel_rfl) (body:=b_cJ) (by kernel_rfl) (by kernel_rfl) (wn.of (by kernel_rfl) .nil) (loans:=BP.mkL p_cJ.store v.2) rfl ((e_cJ N v K).trans h)
noncomputable def ct79 (N:Nat):CT:=(29,(wa false p_cJ (g_cJ N)))::ct78 N
theorem wuM (N:Nat):CTOK gd P (ct79 N):=.cons (o_cJ N) (wtY N)

noncomputable def i_cK (N:Nat):Fi:={ loans:=0,owns:=true,results:=[.tmp 2],rtys:=[4],blks:=[],regs:=[],masks:=[] }
noncomputable def b_cK:Code:=match Tryz.f8.body with | some c=>c | none=>.skip
noncomputable def p_cK:Pt:=⟨[(.i (.pair .bool (.pair (.sl (.int .i64)) (.pair (.sl (.int .i64)) .unit))))],[]⟩
noncomputable def z_cK (F:type_of% @wdw) (v:p_cK.V) (K:KF α):Option α:=F N v.1.1 (fun o0_0=>K (.iv .bool o0_0) [])
noncomputable def g_cK (v:p_cK.V) (K:KF α):Option α:=z_cK N @wdw v K
theorem e_cK (v:p_cK.V) (K:KF α):wbB env (ct79 N) (i_cK N) Tryz.f8 (SP.mkL p_cK.slots v.1) (BP.mkL p_cK.store v.2) K=g_cK N v K:=Eq.trans (b:=z_cK N @wdw.b v K) (by kernel_rfl) (by unfold g_cK; rw [wdw.eq])
theorem o_cK (N:Nat):wk gd P 8 (wa false p_cK (g_cK N)) :=
 wh fun v K h=>wJ hE hP (wuM N) Tryz.func8 (by kernel_rfl) (body:=b_cK) (by kernel_rfl) (by kernel_rfl) (wn.of (by kernel_rfl) .nil) (loans:=BP.mkL p_cK.store v.2) rfl ((e_cK N v K).trans h)
noncomputable def ct80 (N:Nat):CT:=(8,(wa false p_cK (g_cK N)))::ct79 N
theorem wuf (N:Nat):CTOK gd P (ct80 N):=.cons (o_cK N) (wuM N)

noncomputable def i_cL (N:Nat):Fi:={ loans:=0,owns:=true,results:=[.cell 2 122],rtys:=[122],blks:=[],regs:=[],masks:=[] }
noncomputable def b_cL:Code:=match Tryz.f98.body with | some c=>c | none=>.skip
noncomputable def p_cL:Pt:=⟨[(.i (.pair .bool (.pair (.sl (.int .i64)) (.pair (.sl (.int .i64)) .unit))))],[]⟩
noncomputable def z_cL (F:type_of% @weO) (v:p_cL.V) (K:KF α):Option α:=F N v.1.1 (fun o0_0=>K (.iv (.pair .bool (.pair (.sl (.int .i64)) (.pair (.sl (.int .i64)) .unit))) o0_0) [])
noncomputable def g_cL (v:p_cL.V) (K:KF α):Option α:=z_cL N @weO v K
theorem e_cL (v:p_cL.V) (K:KF α):wbB env (ct80 N) (i_cL N) Tryz.f98 (SP.mkL p_cL.slots v.1) (BP.mkL p_cL.store v.2) K=g_cL N v K:=Eq.trans (b:=z_cL N @weO.b v K) (by kernel_rfl) (by unfold g_cL; rw [weO.eq])
theorem o_cL (N:Nat):wk gd P 98 (wa false p_cL (g_cL N)) :=
 wh fun v K h=>wJ hE hP (wuf N) Tryz.func98 (by kernel_rfl) (body:=b_cL) (by kernel_rfl) (by kernel_rfl) (wn.of (by kernel_rfl) .nil) (loans:=BP.mkL p_cL.store v.2) rfl ((e_cL N v K).trans h)
noncomputable def ct81 (N:Nat):CT:=(98,(wa false p_cL (g_cL N)))::ct80 N
theorem wup (N:Nat):CTOK gd P (ct81 N):=.cons (o_cL N) (wuf N)

noncomputable def i_cM (N:Nat):Fi:={ loans:=0,owns:=true,results:=[.tmp 2],rtys:=[3],blks:=[],regs:=[],masks:=[] }
noncomputable def b_cM:Code:=match Tryz.f159.body with | some c=>c | none=>.skip
noncomputable def p_cM:Pt:=⟨[(.i (.int .i64))],[]⟩
noncomputable def z_cM (F:type_of% @wem) (v:p_cM.V) (K:KF α):Option α:=F N v.1.1 (fun o0_0=>K (.iv (.int .i64) o0_0) [])
noncomputable def g_cM (v:p_cM.V) (K:KF α):Option α:=z_cM N @wem v K
theorem e_cM (v:p_cM.V) (K:KF α):wbB env (ct81 N) (i_cM N) Tryz.f159 (SP.mkL p_cM.slots v.1) (BP.mkL p_cM.store v.2) K=g_cM N v K:=Eq.trans (b:=z_cM N @wem.b v K) (by kernel_rfl) (by unfold g_cM; rw [wem.eq])
theorem o_cM (N:Nat):wk gd P 159 (wa false p_cM (g_cM N)) :=
 wh fun v K h=>wJ hE hP (wup N) Tryz.func159 (by kernel_rfl) (body:=b_cM) (by kernel_rfl) (by kernel_rfl) (wn.of (by kernel_rfl) .nil) (loans:=BP.mkL p_cM.store v.2) rfl ((e_cM N v K).trans h)
noncomputable def ct82 (N:Nat):CT:=(159,(wa false p_cM (g_cM N)))::ct81 N
theorem wsR (N:Nat):CTOK gd P (ct82 N):=.cons (o_cM N) (wup N)

noncomputable def p_cN:Pt:=⟨.u::.u::.u::(.i (.int .i64))::(.i (.int .i64))::ups 20 ([]),[]⟩
noncomputable def z_cN (F:type_of% (@wbU α 0 0)) (v:p_cN.V) (K:KO α):Option α:=F v.1.2.2.2.1 v.1.2.2.2.2.1 (fun o0_0=>K (.normal ⟨U::U::U::(.iv (.int .i64) o0_0)::us 21 ([]),[]⟩))
noncomputable def g_cN (n:Nat) (v:p_cN.V) (K:KO α):Option α:=z_cN (wbU N n) v K
noncomputable def q_cN (N:Nat):Piece:=(wj 320 p_cN (g_cN N N))
noncomputable def i_cO (N:Nat):Fi:={ loans:=0,owns:=true,results:=[.tmp 2],rtys:=[3],blks:=[(0,q_cN N)],regs:=[],masks:=[(0,64)] }
noncomputable def b_cO:Code:=match Tryz.f160.body with | some c=>c | none=>.skip
noncomputable def n_cN:Code:=(.block 0 (.loop (wq b_cO [1,1,1,0,1,0,0])))
theorem e_cN (n:Nat) (v:p_cN.V) (K:KO α):wbe env (ct82 N) (i_cO N) 320 (wj 320 p_cN (g_cN N n)).run n_cN (p_cN.mk' v) K=g_cN N (n + 1) v K:=Eq.trans (b:=z_cN (fun x0 x1 k0=>wgM N (fun y0 y1=>wbU N n y0 y1 k0) k0 x0 x1) v K) (by kernel_rfl) (by unfold g_cN z_cN; rw [wbU.succ])
theorem o_cN (N:Nat):wv gd P (i_cO N) n_cN (q_cN N) :=
 wI hE hP (wsR N) (wn.of (by kernel_rfl) .nil) (fun n {_}=>g_cN N n) (fun _ _=>wbU.zero ..) (fun n {_} v K=>e_cN N n v K) N
noncomputable def p_cO:Pt:=⟨[(.i (.sl (.int .i64)))],[]⟩
noncomputable def z_cO (F:type_of% @wdE) (v:p_cO.V) (K:KF α):Option α:=F N v.1.1 (fun o0_0=>K (.iv (.int .i64) o0_0) [])
noncomputable def g_cO (v:p_cO.V) (K:KF α):Option α:=z_cO N @wdE v K
theorem e_cO (v:p_cO.V) (K:KF α):wbB env (ct82 N) (i_cO N) Tryz.f160 (SP.mkL p_cO.slots v.1) (BP.mkL p_cO.store v.2) K=g_cO N v K:=Eq.trans (b:=z_cO N @wdE.b v K) (by kernel_rfl) (by unfold g_cO; rw [wdE.eq])
theorem o_cO (N:Nat):wk gd P 160 (wa false p_cO (g_cO N)) :=
 wh fun v K h=>wJ hE hP (wsR N) Tryz.func160 (by kernel_rfl) (body:=b_cO) (by kernel_rfl) (by kernel_rfl) (wn.of (by kernel_rfl) (.cons (o_cN N) .nil)) (loans:=BP.mkL p_cO.store v.2) rfl ((e_cO N v K).trans h)
noncomputable def ct83 (N:Nat):CT:=(160,(wa false p_cO (g_cO N)))::ct82 N
theorem wuA (N:Nat):CTOK gd P (ct83 N):=.cons (o_cO N) (wsR N)

noncomputable def i_cP (N:Nat):Fi:={ loans:=0,owns:=true,results:=[.tmp 2],rtys:=[3],blks:=[],regs:=[],masks:=[] }
noncomputable def b_cP:Code:=match Tryz.f161.body with | some c=>c | none=>.skip
noncomputable def p_cP:Pt:=⟨[(.i (.int .i64))],[]⟩
noncomputable def z_cP (F:type_of% @wde) (v:p_cP.V) (K:KF α):Option α:=F N v.1.1 (fun o0_0=>K (.iv (.int .i64) o0_0) [])
noncomputable def g_cP (v:p_cP.V) (K:KF α):Option α:=z_cP N @wde v K
theorem e_cP (v:p_cP.V) (K:KF α):wbB env (ct83 N) (i_cP N) Tryz.f161 (SP.mkL p_cP.slots v.1) (BP.mkL p_cP.store v.2) K=g_cP N v K:=Eq.trans (b:=z_cP N @wde.b v K) (by kernel_rfl) (by unfold g_cP; rw [wde.eq])
theorem o_cP (N:Nat):wk gd P 161 (wa false p_cP (g_cP N)) :=
 wh fun v K h=>wJ hE hP (wuA N) Tryz.func161 (by kernel_rfl) (body:=b_cP) (by kernel_rfl) (by kernel_rfl) (wn.of (by kernel_rfl) .nil) (loans:=BP.mkL p_cP.store v.2) rfl ((e_cP N v K).trans h)
noncomputable def ct84 (N:Nat):CT:=(161,(wa false p_cP (g_cP N)))::ct83 N
theorem wuD (N:Nat):CTOK gd P (ct84 N):=.cons (o_cP N) (wuA N)

noncomputable def i_cQ (N:Nat):Fi:={ loans:=0,owns:=true,results:=[.tmp 2],rtys:=[23],blks:=[],regs:=[],masks:=[] }
noncomputable def b_cQ:Code:=match Tryz.f129.body with | some c=>c | none=>.skip
noncomputable def p_cQ:Pt:=⟨[(.i (.int .i64))],[]⟩
noncomputable def z_cQ (F:type_of% @wdv) (v:p_cQ.V) (K:KF α):Option α:=F N v.1.1 (fun o0_0=>K (.own 0) [(.arr 3 (.int .i64) o0_0 false)])
noncomputable def g_cQ (v:p_cQ.V) (K:KF α):Option α:=z_cQ N @wdv v K
theorem e_cQ (v:p_cQ.V) (K:KF α):wbB env (ct84 N) (i_cQ N) Tryz.f129 (SP.mkL p_cQ.slots v.1) (BP.mkL p_cQ.store v.2) K=g_cQ N v K:=Eq.trans (b:=z_cQ N @wdv.b v K) (by kernel_rfl) (by unfold g_cQ; rw [wdv.eq])
theorem o_cQ (N:Nat):wk gd P 129 (wa false p_cQ (g_cQ N)) :=
 wh fun v K h=>wJ hE hP (wuD N) Tryz.func129 (by kernel_rfl) (body:=b_cQ) (by kernel_rfl) (by kernel_rfl) (wn.of (by kernel_rfl) .nil) (loans:=BP.mkL p_cQ.store v.2) rfl ((e_cQ N v K).trans h)
noncomputable def ct85 (N:Nat):CT:=(129,(wa false p_cQ (g_cQ N)))::ct84 N
theorem wtl (N:Nat):CTOK gd P (ct85 N):=.cons (o_cQ N) (wuD N)

noncomputable def p_cR:Pt:=⟨.u::(.i (.int .i64))::ups 4 ((.i (.sl (.int .i64)))::(.i (.sl (.int .i64)))::ups 27 ([])),[]⟩
noncomputable def z_cR (F:type_of% @wc9) (v:p_cR.V) (K:KO α):Option α:=F N v.1.2.1 (nx 4 v.1.2.2).1 (nx 4 v.1.2.2).2.1 (fun o0_0 o0_1=>K (.normal ⟨us 6 ((.iv (.sl (.int .i64)) o0_0)::(.iv (.sl (.int .i64)) o0_1)::us 27 ([])),[]⟩))
noncomputable def g_cR (v:p_cR.V) (K:KO α):Option α:=z_cR N @wc9 v K
noncomputable def q_cR (N:Nat):Piece:=(wj 20484 p_cR (g_cR N))
noncomputable def i_cS (N:Nat):Fi:={ loans:=0,owns:=true,results:=[.tmp 4,.tmp 5],rtys:=[23,4],blks:=[],regs:=[(3,q_cR N)],masks:=[] }
noncomputable def b_cS:Code:=match Tryz.f162.body with | some c=>c | none=>.skip
noncomputable def n_cR:Code:=(.seq (wq b_cS [1,1,1,0,0]) (wq b_cS [1,1,1,0,1]))
theorem e_cR (v:p_cR.V) (K:KO α):wcK env (ct85 N) (i_cS N) 61440 n_cR (p_cR.mk' v) K=g_cR N v K:=Eq.trans (b:=z_cR N @wc9.b v K) (by kernel_rfl) (by unfold g_cR; rw [wc9.eq])
theorem o_cR (N:Nat):wv gd P (i_cS N) n_cR (q_cR N) :=
 wG hE hP (wtl N) (wn.of (by kernel_rfl) .nil) (wn.of (by kernel_rfl) .nil) (e_cR N)
noncomputable def p_cS:Pt:=⟨[(.i (.pair .bool (.pair (.sl (.int .i64)) (.pair (.sl (.int .i64)) .unit)))),(.i (.int .i64))],[]⟩
noncomputable def z_cS (F:type_of% @wdx) (v:p_cS.V) (K:KF α):Option α:=F N v.1.1 v.1.2.1 (fun o0_0 o0_1=>K (.tuple [(.own 0),(.iv .bool o0_0)]) [(.arr 3 (.int .i64) o0_1 false)])
noncomputable def g_cS (v:p_cS.V) (K:KF α):Option α:=z_cS N @wdx v K
theorem e_cS (v:p_cS.V) (K:KF α):wbB env (ct85 N) (i_cS N) Tryz.f162 (SP.mkL p_cS.slots v.1) (BP.mkL p_cS.store v.2) K=g_cS N v K:=Eq.trans (b:=z_cS N @wdx.b v K) (by kernel_rfl) (by unfold g_cS; rw [wdx.eq])
theorem o_cS (N:Nat):wk gd P 162 (wa false p_cS (g_cS N)) :=
 wh fun v K h=>wJ hE hP (wtl N) Tryz.func162 (by kernel_rfl) (body:=b_cS) (by kernel_rfl) (by kernel_rfl) (wn.of (by kernel_rfl) (.cons (o_cR N) .nil)) (loans:=BP.mkL p_cS.store v.2) rfl ((e_cS N v K).trans h)
noncomputable def ct86 (N:Nat):CT:=(162,(wa false p_cS (g_cS N)))::ct85 N
theorem wtB (N:Nat):CTOK gd P (ct86 N):=.cons (o_cS N) (wtl N)

noncomputable def p_cT:Pt:=⟨(.i (.sl (.int .i64)))::.u::.u::.u::(.i (.int .u64))::(.i (.int .i64))::ups 24 ([]),[]⟩
noncomputable def z_cT (F:type_of% (@wX α 0 0)) (v:p_cT.V) (K:KO α):Option α:=F v.1.1 v.1.2.2.2.2.1 v.1.2.2.2.2.2.1 (fun o0_0=>K (.normal ⟨us 4 ((.iv (.int .u64) o0_0)::us 25 ([])),[]⟩))
noncomputable def g_cT (n:Nat) (v:p_cT.V) (K:KO α):Option α:=z_cT (wX N n) v K
noncomputable def q_cT (N:Nat):Piece:=(wj 1281 p_cT (g_cT N N))
noncomputable def i_cU (N:Nat):Fi:={ loans:=0,owns:=true,results:=[.tmp 2,.tmp 3],rtys:=[77,4],blks:=[(0,q_cT N)],regs:=[],masks:=[(0,256)] }
noncomputable def b_cU:Code:=match Tryz.f163.body with | some c=>c | none=>.skip
noncomputable def n_cT:Code:=(.block 0 (.loop (wq b_cU [1,1,1,0,1,0,0])))
theorem e_cT (n:Nat) (v:p_cT.V) (K:KO α):wbe env (ct86 N) (i_cU N) 1281 (wj 1281 p_cT (g_cT N n)).run n_cT (p_cT.mk' v) K=g_cT N (n + 1) v K:=Eq.trans (b:=z_cT (fun x0 x1 x2 k0=>wft N (fun y0 y1 y2=>wX N n y0 y1 y2 k0) k0 x0 x1 x2) v K) (by kernel_rfl) (by unfold g_cT z_cT; rw [wX.succ])
theorem o_cT (N:Nat):wv gd P (i_cU N) n_cT (q_cT N) :=
 wI hE hP (wtB N) (wn.of (by kernel_rfl) .nil) (fun n {_}=>g_cT N n) (fun _ _=>wX.zero ..) (fun n {_} v K=>e_cT N n v K) N
noncomputable def p_cU:Pt:=⟨[(.i (.sl (.int .i64)))],[]⟩
noncomputable def z_cU (F:type_of% @wdy) (v:p_cU.V) (K:KF α):Option α:=F N v.1.1 (fun o0_0 o0_1=>K (.tuple [(.iv (.int .u64) o0_0),(.iv .bool o0_1)]) [])
noncomputable def g_cU (v:p_cU.V) (K:KF α):Option α:=z_cU N @wdy v K
theorem e_cU (v:p_cU.V) (K:KF α):wbB env (ct86 N) (i_cU N) Tryz.f163 (SP.mkL p_cU.slots v.1) (BP.mkL p_cU.store v.2) K=g_cU N v K:=Eq.trans (b:=z_cU N @wdy.b v K) (by kernel_rfl) (by unfold g_cU; rw [wdy.eq])
theorem o_cU (N:Nat):wk gd P 163 (wa false p_cU (g_cU N)) :=
 wh fun v K h=>wJ hE hP (wtB N) Tryz.func163 (by kernel_rfl) (body:=b_cU) (by kernel_rfl) (by kernel_rfl) (wn.of (by kernel_rfl) (.cons (o_cT N) .nil)) (loans:=BP.mkL p_cU.store v.2) rfl ((e_cU N v K).trans h)
noncomputable def ct87 (N:Nat):CT:=(163,(wa false p_cU (g_cU N)))::ct86 N
theorem wtT (N:Nat):CTOK gd P (ct87 N):=.cons (o_cU N) (wtB N)

noncomputable def i_cV (N:Nat):Fi:={ loans:=0,owns:=true,results:=[.tmp 2],rtys:=[3],blks:=[],regs:=[],masks:=[] }
noncomputable def b_cV:Code:=match Tryz.f155.body with | some c=>c | none=>.skip
noncomputable def p_cV:Pt:=⟨[(.i (.int .i64))],[]⟩
noncomputable def z_cV (F:type_of% @wc2) (v:p_cV.V) (K:KF α):Option α:=F N v.1.1 (fun o0_0=>K (.iv (.int .i64) o0_0) [])
noncomputable def g_cV (v:p_cV.V) (K:KF α):Option α:=z_cV N @wc2 v K
theorem e_cV (v:p_cV.V) (K:KF α):wbB env (ct87 N) (i_cV N) Tryz.f155 (SP.mkL p_cV.slots v.1) (BP.mkL p_cV.store v.2) K=g_cV N v K:=Eq.trans (b:=z_cV N @wc2.b v K) (by kernel_rfl) (by unfold g_cV; rw [wc2.eq])
theorem o_cV (N:Nat):wk gd P 155 (wa false p_cV (g_cV N)) :=
 wh fun v K h=>wJ hE hP (wtT N) Tryz.func155 (by kernel_rfl) (body:=b_cV) (by kernel_rfl) (by kernel_rfl) (wn.of (by kernel_rfl) .nil) (loans:=BP.mkL p_cV.store v.2) rfl ((e_cV N v K).trans h)
noncomputable def ct88 (N:Nat):CT:=(155,(wa false p_cV (g_cV N)))::ct87 N
theorem wrA (N:Nat):CTOK gd P (ct88 N):=.cons (o_cV N) (wtT N)

noncomputable def p_cW:Pt:=⟨(.i (.int .i64))::.u::.u::(.p 0 [] 0)::.u::.u::(.i (.int .i64))::(.i (.int .i64))::ups 89 ([]),[(.box 122 (.i (.pair .bool (.pair (.sl (.int .i64)) (.pair (.sl (.int .i64)) .unit)))) false)]⟩
noncomputable def z_cW (F:type_of% @wdo) (v:p_cW.V) (K:KO α):Option α:=F N v.1.1 v.1.2.2.2.2.2.2.1 v.1.2.2.2.2.2.2.2.1 v.2.1 (fun o0_0 o0_1 o0_2 o0_3=>K (.normal ⟨(.iv (.int .i64) o0_0)::U::U::(.lp 0 [] 0)::U::U::(.iv (.int .i64) o0_1)::(.iv (.int .i64) o0_2)::us 89 ([]),[(.box 122 (.iv (.pair .bool (.pair (.sl (.int .i64)) (.pair (.sl (.int .i64)) .unit))) o0_3) false)]⟩))
noncomputable def g_cW (v:p_cW.V) (K:KO α):Option α:=z_cW N @wdo v K
noncomputable def p_cX:Pt:=⟨(.i (.int .i64))::.u::.u::(.p 0 [] 0)::.u::.u::(.i (.int .i64))::(.i (.int .i64))::(.o 1)::(.i .bool)::ups 87 ([]),[(.box 122 (.i (.pair .bool (.pair (.sl (.int .i64)) (.pair (.sl (.int .i64)) .unit)))) false),(.arr 3 (.int .i64) false)]⟩
noncomputable def z_cX (F:type_of% (@wbN α 0 0)) (v:p_cX.V) (K:KO α):Option α:=F v.1.1 v.1.2.2.2.2.2.2.1 v.1.2.2.2.2.2.2.2.1 v.1.2.2.2.2.2.2.2.2.2.1 v.2.1 v.2.2.1 (fun o0_0 o0_1 o0_2 o0_3 o0_4=>K (.normal ⟨(.iv (.int .i64) o0_0)::us 5 ((.iv (.int .i64) o0_1)::(.iv (.int .i64) o0_2)::(.own 0)::(.iv .bool o0_3)::us 87 ([])),[(.arr 3 (.int .i64) o0_4 false)]⟩))
noncomputable def g_cX (n:Nat) (v:p_cX.V) (K:KO α):Option α:=z_cX (wbN N n) v K
noncomputable def q_cW (N:Nat):Piece:=(wj 20545 p_cW (g_cW N))
noncomputable def q_cX (N:Nat):Piece:=(wj 348225 p_cX (g_cX N N))
noncomputable def i_cY (N:Nat):Fi:={ loans:=0,owns:=true,results:=[.tmp 4,.tmp 5],rtys:=[3,4],blks:=[(0,q_cX N)],regs:=[(5,q_cW N)],masks:=[(0,348161)] }
noncomputable def b_cY:Code:=match Tryz.f134.body with | some c=>c | none=>.skip
noncomputable def n_cW:Code:=(.seq (wq b_cY [1,1,1,1,0,0]) (wq b_cY [1,1,1,1,0,1]))
noncomputable def n_cX:Code:=(.block 0 (.loop (wq b_cY [1,1,1,1,1,1,0,0,0])))
theorem e_cW (v:p_cW.V) (K:KO α):wcK env (ct88 N) (i_cY N) 20545 n_cW (p_cW.mk' v) K=g_cW N v K:=Eq.trans (b:=z_cW N @wdo.b v K) (by kernel_rfl) (by unfold g_cW; rw [wdo.eq])
theorem o_cW (N:Nat):wv gd P (i_cY N) n_cW (q_cW N) :=
 wG hE hP (wrA N) (wn.of (by kernel_rfl) .nil) (wn.of (by kernel_rfl) .nil) (e_cW N)
theorem e_cX (n:Nat) (v:p_cX.V) (K:KO α):wbe env (ct88 N) (i_cY N) 348225 (wj 348225 p_cX (g_cX N n)).run n_cX (p_cX.mk' v) K=g_cX N (n + 1) v K:=Eq.trans (b:=z_cX (fun x0 x1 x2 x3 x4 x5 k0=>wf3 N (fun y0 y1 y2 y3 y4 y5=>wbN N n y0 y1 y2 y3 y4 y5 k0) k0 x0 x1 x2 x3 x4 x5) v K) (by kernel_rfl) (by unfold g_cX z_cX; rw [wbN.succ])
theorem o_cX (N:Nat):wv gd P (i_cY N) n_cX (q_cX N) :=
 wI hE hP (wrA N) (wn.of (by kernel_rfl) .nil) (fun n {_}=>g_cX N n) (fun _ _=>wbN.zero ..) (fun n {_} v K=>e_cX N n v K) N
noncomputable def p_cY:Pt:=⟨[(.i (.int .i64)),(.i (.pair .bool (.pair (.sl (.int .i64)) (.pair (.sl (.int .i64)) .unit))))],[]⟩
noncomputable def z_cY (F:type_of% @weI) (v:p_cY.V) (K:KF α):Option α:=F N v.1.1 v.1.2.1 (fun o0_0 o0_1=>K (.tuple [(.iv (.int .i64) o0_0),(.iv .bool o0_1)]) [])
noncomputable def g_cY (v:p_cY.V) (K:KF α):Option α:=z_cY N @weI v K
theorem e_cY (v:p_cY.V) (K:KF α):wbB env (ct88 N) (i_cY N) Tryz.f134 (SP.mkL p_cY.slots v.1) (BP.mkL p_cY.store v.2) K=g_cY N v K:=Eq.trans (b:=z_cY N @weI.b v K) (by kernel_rfl) (by unfold g_cY; rw [weI.eq])
theorem o_cY (N:Nat):wk gd P 134 (wa false p_cY (g_cY N)) :=
 wh fun v K h=>wJ hE hP (wrA N) Tryz.func134 (by kernel_rfl) (body:=b_cY) (by kernel_rfl) (by kernel_rfl) (wn.of (by kernel_rfl) (.cons (o_cW N) (.cons (o_cX N) .nil))) (loans:=BP.mkL p_cY.store v.2) rfl ((e_cY N v K).trans h)
noncomputable def ct89 (N:Nat):CT:=(134,(wa false p_cY (g_cY N)))::ct88 N
theorem wrs (N:Nat):CTOK gd P (ct89 N):=.cons (o_cY N) (wrA N)

noncomputable def p_cZ:Pt:=⟨.u::.u::(.i .bool)::ups 4 ((.i (.int .i64))::(.i .bool)::ups 24 ([])),[]⟩
noncomputable def z_cZ (F:type_of% @wdj) (v:p_cZ.V) (K:KO α):Option α:=F N v.1.2.2.1 (nx 4 v.1.2.2.2).1 (nx 4 v.1.2.2.2).2.1 (fun o0_0=>K (.normal ⟨us 7 ((.iv (.int .i64) o0_0)::us 25 ([])),[]⟩))
noncomputable def g_cZ (v:p_cZ.V) (K:KO α):Option α:=z_cZ N @wdj v K
noncomputable def p_c0:Pt:=⟨.u::.u::(.i .bool)::ups 4 ((.i (.int .i64))::(.i .bool)::ups 24 ([])),[]⟩
noncomputable def z_c0 (F:type_of% @wdi) (v:p_c0.V) (K:KO α):Option α:=F N v.1.2.2.1 (nx 4 v.1.2.2.2).1 (nx 4 v.1.2.2.2).2.1 (fun o0_0=>K (.normal ⟨us 7 ((.iv (.int .i64) o0_0)::us 25 ([])),[]⟩))
noncomputable def g_c0 (v:p_c0.V) (K:KO α):Option α:=z_c0 N @wdi v K
noncomputable def q_cZ (N:Nat):Piece:=(wj 81936 p_cZ (g_cZ N))
noncomputable def q_c0 (N:Nat):Piece:=(wj 81936 p_c0 (g_c0 N))
noncomputable def i_c1 (N:Nat):Fi:={ loans:=0,owns:=true,results:=[.tmp 6],rtys:=[3],blks:=[],regs:=[(3,q_cZ N),(6,q_c0 N)],masks:=[] }
noncomputable def b_c1:Code:=match Tryz.f97.body with | some c=>c | none=>.skip
noncomputable def n_cZ:Code:=(.seq (wq b_c1 [1,1,0,1,0,0,0]) (wq b_c1 [1,1,0,1,0,0,1]))
noncomputable def n_c0:Code:=(.seq (wq b_c1 [1,1,1,0,0]) (wq b_c1 [1,1,1,0,1]))
theorem e_cZ (v:p_cZ.V) (K:KO α):wcK env (ct89 N) (i_c1 N) 16384 n_cZ (p_cZ.mk' v) K=g_cZ N v K:=Eq.trans (b:=z_cZ N @wdj.b v K) (by kernel_rfl) (by unfold g_cZ; rw [wdj.eq])
theorem o_cZ (N:Nat):wv gd P (i_c1 N) n_cZ (q_cZ N) :=
 wG hE hP (wrs N) (wn.of (by kernel_rfl) .nil) (wn.of (by kernel_rfl) .nil) (e_cZ N)
theorem e_c0 (v:p_c0.V) (K:KO α):wcK env (ct89 N) (i_c1 N) 16384 n_c0 (p_c0.mk' v) K=g_c0 N v K:=Eq.trans (b:=z_c0 N @wdi.b v K) (by kernel_rfl) (by unfold g_c0; rw [wdi.eq])
theorem o_c0 (N:Nat):wv gd P (i_c1 N) n_c0 (q_c0 N) :=
 wG hE hP (wrs N) (wn.of (by kernel_rfl) .nil) (wn.of (by kernel_rfl) .nil) (e_c0 N)
noncomputable def p_c1:Pt:=⟨[(.i (.int .i64)),(.i (.pair .bool (.pair (.sl (.int .i64)) (.pair (.sl (.int .i64)) .unit)))),(.i .bool)],[]⟩
noncomputable def z_c1 (F:type_of% @wdX) (v:p_c1.V) (K:KF α):Option α:=F N v.1.1 v.1.2.1 v.1.2.2.1 (fun o0_0=>K (.iv (.int .i64) o0_0) [])
noncomputable def g_c1 (v:p_c1.V) (K:KF α):Option α:=z_c1 N @wdX v K
theorem e_c1 (v:p_c1.V) (K:KF α):wbB env (ct89 N) (i_c1 N) Tryz.f97 (SP.mkL p_c1.slots v.1) (BP.mkL p_c1.store v.2) K=g_c1 N v K:=Eq.trans (b:=z_c1 N @wdX.b v K) (by kernel_rfl) (by unfold g_c1; rw [wdX.eq])
theorem o_c1 (N:Nat):wk gd P 97 (wa false p_c1 (g_c1 N)) :=
 wh fun v K h=>wJ hE hP (wrs N) Tryz.func97 (by kernel_rfl) (body:=b_c1) (by kernel_rfl) (by kernel_rfl) (wn.of (by kernel_rfl) (.cons (o_cZ N) (.cons (o_c0 N) .nil))) (loans:=BP.mkL p_c1.store v.2) rfl ((e_c1 N v K).trans h)
noncomputable def ct90 (N:Nat):CT:=(97,(wa false p_c1 (g_c1 N)))::ct89 N
theorem wtV (N:Nat):CTOK gd P (ct90 N):=.cons (o_c1 N) (wrs N)

noncomputable def i_c2 (N:Nat):Fi:={ loans:=0,owns:=true,results:=[.tmp 4,.tmp 5],rtys:=[3,4],blks:=[],regs:=[],masks:=[] }
noncomputable def b_c2:Code:=match Tryz.f58.body with | some c=>c | none=>.skip
noncomputable def p_c2:Pt:=⟨[(.i (.int .i64)),(.i (.pair .bool (.pair (.sl (.int .i64)) (.pair (.sl (.int .i64)) .unit))))],[]⟩
noncomputable def z_c2 (F:type_of% @wdq) (v:p_c2.V) (K:KF α):Option α:=F N v.1.1 v.1.2.1 (fun o0_0 o0_1=>K (.tuple [(.iv (.int .i64) o0_0),(.iv .bool o0_1)]) [])
noncomputable def g_c2 (v:p_c2.V) (K:KF α):Option α:=z_c2 N @wdq v K
theorem e_c2 (v:p_c2.V) (K:KF α):wbB env (ct90 N) (i_c2 N) Tryz.f58 (SP.mkL p_c2.slots v.1) (BP.mkL p_c2.store v.2) K=g_c2 N v K:=Eq.trans (b:=z_c2 N @wdq.b v K) (by kernel_rfl) (by unfold g_c2; rw [wdq.eq])
theorem o_c2 (N:Nat):wk gd P 58 (wa false p_c2 (g_c2 N)) :=
 wh fun v K h=>wJ hE hP (wtV N) Tryz.func58 (by kernel_rfl) (body:=b_c2) (by kernel_rfl) (by kernel_rfl) (wn.of (by kernel_rfl) .nil) (loans:=BP.mkL p_c2.store v.2) rfl ((e_c2 N v K).trans h)
noncomputable def ct91 (N:Nat):CT:=(58,(wa false p_c2 (g_c2 N)))::ct90 N
theorem wut (N:Nat):CTOK gd P (ct91 N):=.cons (o_c2 N) (wtV N)

noncomputable def i_c3 (N:Nat):Fi:={ loans:=0,owns:=true,results:=[.tmp 4,.tmp 5],rtys:=[3,4],blks:=[],regs:=[],masks:=[] }
noncomputable def b_c3:Code:=match Tryz.f59.body with | some c=>c | none=>.skip
noncomputable def p_c3:Pt:=⟨[(.i (.int .i64)),(.i (.pair .bool (.pair (.sl (.int .i64)) (.pair (.sl (.int .i64)) .unit))))],[]⟩
noncomputable def z_c3 (F:type_of% @wd8) (v:p_c3.V) (K:KF α):Option α:=F N v.1.1 v.1.2.1 (fun o0_0 o0_1=>K (.tuple [(.iv (.int .i64) o0_0),(.iv .bool o0_1)]) [])
noncomputable def g_c3 (v:p_c3.V) (K:KF α):Option α:=z_c3 N @wd8 v K
theorem e_c3 (v:p_c3.V) (K:KF α):wbB env (ct91 N) (i_c3 N) Tryz.f59 (SP.mkL p_c3.slots v.1) (BP.mkL p_c3.store v.2) K=g_c3 N v K:=Eq.trans (b:=z_c3 N @wd8.b v K) (by kernel_rfl) (by unfold g_c3; rw [wd8.eq])
theorem o_c3 (N:Nat):wk gd P 59 (wa false p_c3 (g_c3 N)) :=
 wh fun v K h=>wJ hE hP (wut N) Tryz.func59 (by kernel_rfl) (body:=b_c3) (by kernel_rfl) (by kernel_rfl) (wn.of (by kernel_rfl) .nil) (loans:=BP.mkL p_c3.store v.2) rfl ((e_c3 N v K).trans h)
noncomputable def ct92 (N:Nat):CT:=(59,(wa false p_c3 (g_c3 N)))::ct91 N
theorem wt9 (N:Nat):CTOK gd P (ct92 N):=.cons (o_c3 N) (wut N)

noncomputable def i_c4 (N:Nat):Fi:={ loans:=0,owns:=true,results:=[.cell 4 35,.tmp 5],rtys:=[35,4],blks:=[],regs:=[],masks:=[] }
noncomputable def b_c4:Code:=match Tryz.f21.body with | some c=>c | none=>.skip
noncomputable def p_c4:Pt:=⟨[(.i (.int .i64)),(.i (.pair .bool (.pair (.sl (.int .i64)) (.pair (.sl (.int .i64)) .unit))))],[]⟩
noncomputable def z_c4 (F:type_of% @wdg) (v:p_c4.V) (K:KF α):Option α:=F N v.1.1 v.1.2.1 (fun o0_0 o0_1=>K (.tuple [(.iv (.pair (.int .i64) (.pair (.int .i64) .unit)) o0_0),(.iv .bool o0_1)]) [])
noncomputable def g_c4 (v:p_c4.V) (K:KF α):Option α:=z_c4 N @wdg v K
theorem e_c4 (v:p_c4.V) (K:KF α):wbB env (ct92 N) (i_c4 N) Tryz.f21 (SP.mkL p_c4.slots v.1) (BP.mkL p_c4.store v.2) K=g_c4 N v K:=Eq.trans (b:=z_c4 N @wdg.b v K) (by kernel_rfl) (by unfold g_c4; rw [wdg.eq])
theorem o_c4 (N:Nat):wk gd P 21 (wa false p_c4 (g_c4 N)) :=
 wh fun v K h=>wJ hE hP (wt9 N) Tryz.func21 (by kernel_rfl) (body:=b_c4) (by kernel_rfl) (by kernel_rfl) (wn.of (by kernel_rfl) .nil) (loans:=BP.mkL p_c4.store v.2) rfl ((e_c4 N v K).trans h)
noncomputable def ct93 (N:Nat):CT:=(21,(wa false p_c4 (g_c4 N)))::ct92 N
theorem wtN (N:Nat):CTOK gd P (ct93 N):=.cons (o_c4 N) (wt9 N)

noncomputable def i_c5 (N:Nat):Fi:={ loans:=0,owns:=true,results:=[.cell 4 35,.tmp 5],rtys:=[35,4],blks:=[],regs:=[],masks:=[] }
noncomputable def b_c5:Code:=match Tryz.f13.body with | some c=>c | none=>.skip
noncomputable def p_c5:Pt:=⟨[(.i (.int .i64)),(.i .str)],[]⟩
noncomputable def z_c5 (F:type_of% @wef) (v:p_c5.V) (K:KF α):Option α:=F N v.1.1 v.1.2.1 (fun o0_0 o0_1=>K (.tuple [(.iv (.pair (.int .i64) (.pair (.int .i64) .unit)) o0_0),(.iv .bool o0_1)]) [])
noncomputable def g_c5 (v:p_c5.V) (K:KF α):Option α:=z_c5 N @wef v K
theorem e_c5 (v:p_c5.V) (K:KF α):wbB env (ct93 N) (i_c5 N) Tryz.f13 (SP.mkL p_c5.slots v.1) (BP.mkL p_c5.store v.2) K=g_c5 N v K:=Eq.trans (b:=z_c5 N @wef.b v K) (by kernel_rfl) (by unfold g_c5; rw [wef.eq])
theorem o_c5 (N:Nat):wk gd P 13 (wa false p_c5 (g_c5 N)) :=
 wh fun v K h=>wJ hE hP (wtN N) Tryz.func13 (by kernel_rfl) (body:=b_c5) (by kernel_rfl) (by kernel_rfl) (wn.of (by kernel_rfl) .nil) (loans:=BP.mkL p_c5.store v.2) rfl ((e_c5 N v K).trans h)
noncomputable def ct94 (N:Nat):CT:=(13,(wa false p_c5 (g_c5 N)))::ct93 N
theorem wui (N:Nat):CTOK gd P (ct94 N):=.cons (o_c5 N) (wtN N)

noncomputable def i_c6 (N:Nat):Fi:={ loans:=0,owns:=true,results:=[.tmp 2],rtys:=[3],blks:=[],regs:=[],masks:=[] }
noncomputable def b_c6:Code:=match Tryz.f51.body with | some c=>c | none=>.skip
noncomputable def p_c6:Pt:=⟨[(.i (.int .i64))],[]⟩
noncomputable def z_c6 (F:type_of% @weo) (v:p_c6.V) (K:KF α):Option α:=F N v.1.1 (fun o0_0=>K (.iv (.int .i64) o0_0) [])
noncomputable def g_c6 (v:p_c6.V) (K:KF α):Option α:=z_c6 N @weo v K
theorem e_c6 (v:p_c6.V) (K:KF α):wbB env (ct94 N) (i_c6 N) Tryz.f51 (SP.mkL p_c6.slots v.1) (BP.mkL p_c6.store v.2) K=g_c6 N v K:=Eq.trans (b:=z_c6 N @weo.b v K) (by kernel_rfl) (by unfold g_c6; rw [weo.eq])
theorem o_c6 (N:Nat):wk gd P 51 (wa false p_c6 (g_c6 N)) :=
 wh fun v K h=>wJ hE hP (wui N) Tryz.func51 (by kernel_rfl) (body:=b_c6) (by kernel_rfl) (by kernel_rfl) (wn.of (by kernel_rfl) .nil) (loans:=BP.mkL p_c6.store v.2) rfl ((e_c6 N v K).trans h)
noncomputable def ct95 (N:Nat):CT:=(51,(wa false p_c6 (g_c6 N)))::ct94 N
theorem wuY (N:Nat):CTOK gd P (ct95 N):=.cons (o_c6 N) (wui N)

noncomputable def i_c7 (N:Nat):Fi:={ loans:=0,owns:=true,results:=[.tmp 4],rtys:=[4],blks:=[],regs:=[],masks:=[] }
noncomputable def b_c7:Code:=match Tryz.f89.body with | some c=>c | none=>.skip
noncomputable def p_c7:Pt:=⟨[(.i (.int .i64)),(.i (.int .i64))],[]⟩
noncomputable def z_c7 (F:type_of% @weE) (v:p_c7.V) (K:KF α):Option α:=F N v.1.1 v.1.2.1 (fun o0_0=>K (.iv .bool o0_0) [])
noncomputable def g_c7 (v:p_c7.V) (K:KF α):Option α:=z_c7 N @weE v K
theorem e_c7 (v:p_c7.V) (K:KF α):wbB env (ct95 N) (i_c7 N) Tryz.f89 (SP.mkL p_c7.slots v.1) (BP.mkL p_c7.store v.2) K=g_c7 N v K:=Eq.trans (b:=z_c7 N @weE.b v K) (by kernel_rfl) (by unfold g_c7; rw [weE.eq])
theorem o_c7 (N:Nat):wk gd P 89 (wa false p_c7 (g_c7 N)) :=
 wh fun v K h=>wJ hE hP (wuY N) Tryz.func89 (by kernel_rfl) (body:=b_c7) (by kernel_rfl) (by kernel_rfl) (wn.of (by kernel_rfl) .nil) (loans:=BP.mkL p_c7.store v.2) rfl ((e_c7 N v K).trans h)
noncomputable def ct96 (N:Nat):CT:=(89,(wa false p_c7 (g_c7 N)))::ct95 N
theorem wuo (N:Nat):CTOK gd P (ct96 N):=.cons (o_c7 N) (wuY N)

noncomputable def i_c8 (N:Nat):Fi:={ loans:=0,owns:=true,results:=[.tmp 4],rtys:=[4],blks:=[],regs:=[],masks:=[] }
noncomputable def b_c8:Code:=match Tryz.f52.body with | some c=>c | none=>.skip
noncomputable def p_c8:Pt:=⟨[(.i (.int .i64)),(.i (.pair (.int .i64) (.pair (.int .i64) .unit)))],[]⟩
noncomputable def z_c8 (F:type_of% @wes) (v:p_c8.V) (K:KF α):Option α:=F N v.1.1 v.1.2.1 (fun o0_0=>K (.iv .bool o0_0) [])
noncomputable def g_c8 (v:p_c8.V) (K:KF α):Option α:=z_c8 N @wes v K
theorem e_c8 (v:p_c8.V) (K:KF α):wbB env (ct96 N) (i_c8 N) Tryz.f52 (SP.mkL p_c8.slots v.1) (BP.mkL p_c8.store v.2) K=g_c8 N v K:=Eq.trans (b:=z_c8 N @wes.b v K) (by kernel_rfl) (by unfold g_c8; rw [wes.eq])
theorem o_c8 (N:Nat):wk gd P 52 (wa false p_c8 (g_c8 N)) :=
 wh fun v K h=>wJ hE hP (wuo N) Tryz.func52 (by kernel_rfl) (body:=b_c8) (by kernel_rfl) (by kernel_rfl) (wn.of (by kernel_rfl) .nil) (loans:=BP.mkL p_c8.store v.2) rfl ((e_c8 N v K).trans h)
noncomputable def ct97 (N:Nat):CT:=(52,(wa false p_c8 (g_c8 N)))::ct96 N
theorem wuG (N:Nat):CTOK gd P (ct97 N):=.cons (o_c8 N) (wuo N)

noncomputable def i_c9 (N:Nat):Fi:={ loans:=0,owns:=true,results:=[.tmp 2],rtys:=[3],blks:=[],regs:=[],masks:=[] }
noncomputable def b_c9:Code:=match Tryz.f126.body with | some c=>c | none=>.skip
noncomputable def p_c9:Pt:=⟨[(.i (.int .i64))],[]⟩
noncomputable def z_c9 (F:type_of% @wfe) (v:p_c9.V) (K:KF α):Option α:=F N v.1.1 (fun o0_0=>K (.iv (.int .i64) o0_0) [])
noncomputable def g_c9 (v:p_c9.V) (K:KF α):Option α:=z_c9 N @wfe v K
theorem e_c9 (v:p_c9.V) (K:KF α):wbB env (ct97 N) (i_c9 N) Tryz.f126 (SP.mkL p_c9.slots v.1) (BP.mkL p_c9.store v.2) K=g_c9 N v K:=Eq.trans (b:=z_c9 N @wfe.b v K) (by kernel_rfl) (by unfold g_c9; rw [wfe.eq])
theorem o_c9 (N:Nat):wk gd P 126 (wa false p_c9 (g_c9 N)) :=
 wh fun v K h=>wJ hE hP (wuG N) Tryz.func126 (by kernel_rfl) (body:=b_c9) (by kernel_rfl) (by kernel_rfl) (wn.of (by kernel_rfl) .nil) (loans:=BP.mkL p_c9.store v.2) rfl ((e_c9 N v K).trans h)
noncomputable def ct98 (N:Nat):CT:=(126,(wa false p_c9 (g_c9 N)))::ct97 N
theorem wux (N:Nat):CTOK gd P (ct98 N):=.cons (o_c9 N) (wuG N)

noncomputable def i_da (N:Nat):Fi:={ loans:=0,owns:=true,results:=[.cell 4 116,.tmp 5],rtys:=[116,4],blks:=[],regs:=[],masks:=[] }
noncomputable def b_da:Code:=match Tryz.f90.body with | some c=>c | none=>.skip
noncomputable def p_da:Pt:=⟨[(.i (.int .i64)),(.i (.int .i64))],[]⟩
noncomputable def z_da (F:type_of% @wdn) (v:p_da.V) (K:KF α):Option α:=F N v.1.1 v.1.2.1 (fun o0_0 o0_1=>K (.tuple [(.iv (.pair .bool (.pair (.int .u64) (.pair (.int .i64) .unit))) o0_0),(.iv .bool o0_1)]) [])
noncomputable def g_da (v:p_da.V) (K:KF α):Option α:=z_da N @wdn v K
theorem e_da (v:p_da.V) (K:KF α):wbB env (ct98 N) (i_da N) Tryz.f90 (SP.mkL p_da.slots v.1) (BP.mkL p_da.store v.2) K=g_da N v K:=Eq.trans (b:=z_da N @wdn.b v K) (by kernel_rfl) (by unfold g_da; rw [wdn.eq])
theorem o_da (N:Nat):wk gd P 90 (wa false p_da (g_da N)) :=
 wh fun v K h=>wJ hE hP (wux N) Tryz.func90 (by kernel_rfl) (body:=b_da) (by kernel_rfl) (by kernel_rfl) (wn.of (by kernel_rfl) .nil) (loans:=BP.mkL p_da.store v.2) rfl ((e_da N v K).trans h)
noncomputable def ct99 (N:Nat):CT:=(90,(wa false p_da (g_da N)))::ct98 N
theorem wtQ (N:Nat):CTOK gd P (ct99 N):=.cons (o_da N) (wux N)

noncomputable def i_db (N:Nat):Fi:={ loans:=0,owns:=false,results:=[.cell 4 25],rtys:=[25],blks:=[],regs:=[],masks:=[] }
noncomputable def b_db:Code:=match Tryz.f53.body with | some c=>c | none=>.skip
noncomputable def p_db:Pt:=⟨[(.i (.int .i64)),(.i (.int .i64))],[]⟩
noncomputable def z_db (F:type_of% @weM) (v:p_db.V) (K:KF α):Option α:=F N v.1.1 v.1.2.1 (fun o0_0=>K (.iv (.pair .bool (.pair (.sl (.int .i64)) (.pair (.sl (.int .i64)) .unit))) o0_0) [])
noncomputable def g_db (v:p_db.V) (K:KF α):Option α:=z_db N @weM v K
theorem e_db (v:p_db.V) (K:KF α):wbB env (ct99 N) (i_db N) Tryz.f53 (SP.mkL p_db.slots v.1) (BP.mkL p_db.store v.2) K=g_db N v K:=Eq.trans (b:=z_db N @weM.b v K) (by kernel_rfl) (by unfold g_db; rw [weM.eq])
theorem o_db (N:Nat):wk gd P 53 (wa false p_db (g_db N)) :=
 wh fun v K h=>wJ hE hP (wtQ N) Tryz.func53 (by kernel_rfl) (body:=b_db) (by kernel_rfl) (by kernel_rfl) (wn.of (by kernel_rfl) .nil) (loans:=BP.mkL p_db.store v.2) rfl ((e_db N v K).trans h)
noncomputable def wtx (N:Nat):CT:=(53,(wa false p_db (g_db N)))::ct99 N
theorem wsu (N:Nat):CTOK gd P (wtx N):=.cons (o_db N) (wtQ N)

noncomputable def i_dc (N:Nat):Fi:={ loans:=0,owns:=true,results:=[.tmp 2],rtys:=[3],blks:=[],regs:=[],masks:=[] }
noncomputable def b_dc:Code:=match Tryz.f93.body with | some c=>c | none=>.skip
noncomputable def p_dc:Pt:=⟨[(.i (.pair .bool (.pair (.sl (.int .i64)) (.pair (.sl (.int .i64)) .unit))))],[]⟩
noncomputable def z_dc (F:type_of% @wcQ) (v:p_dc.V) (K:KF α):Option α:=F N v.1.1 (fun o0_0=>K (.iv (.int .i64) o0_0) [])
noncomputable def g_dc (v:p_dc.V) (K:KF α):Option α:=z_dc N @wcQ v K
theorem e_dc (v:p_dc.V) (K:KF α):wbB env (wtx N) (i_dc N) Tryz.f93 (SP.mkL p_dc.slots v.1) (BP.mkL p_dc.store v.2) K=g_dc N v K:=Eq.trans (b:=z_dc N @wcQ.b v K) (by kernel_rfl) (by unfold g_dc; rw [wcQ.eq])
theorem o_dc (N:Nat):wk gd P 93 (wa false p_dc (g_dc N)) :=
 wh fun v K h=>wJ hE hP (wsu N) Tryz.func93 (by kernel_rfl) (body:=b_dc) (by kernel_rfl) (by kernel_rfl) (wn.of (by kernel_rfl) .nil) (loans:=BP.mkL p_dc.store v.2) rfl ((e_dc N v K).trans h)
noncomputable def ws6 (N:Nat):CT:=(93,(wa false p_dc (g_dc N)))::wtx N
theorem wsc (N:Nat):CTOK gd P (ws6 N):=.cons (o_dc N) (wsu N)

noncomputable def i_dd (N:Nat):Fi:={ loans:=0,owns:=true,results:=[.tmp 4],rtys:=[3],blks:=[],regs:=[],masks:=[] }
noncomputable def b_dd:Code:=match Tryz.f54.body with | some c=>c | none=>.skip
noncomputable def p_dd:Pt:=⟨[(.i (.pair .bool (.pair (.sl (.int .i64)) (.pair (.sl (.int .i64)) .unit)))),(.i (.pair .bool (.pair (.sl (.int .i64)) (.pair (.sl (.int .i64)) .unit))))],[]⟩
noncomputable def z_dd (F:type_of% @wcV) (v:p_dd.V) (K:KF α):Option α:=F N v.1.1 v.1.2.1 (fun o0_0=>K (.iv (.int .i64) o0_0) [])
noncomputable def g_dd (v:p_dd.V) (K:KF α):Option α:=z_dd N @wcV v K
theorem e_dd (v:p_dd.V) (K:KF α):wbB env (ws6 N) (i_dd N) Tryz.f54 (SP.mkL p_dd.slots v.1) (BP.mkL p_dd.store v.2) K=g_dd N v K:=Eq.trans (b:=z_dd N @wcV.b v K) (by kernel_rfl) (by unfold g_dd; rw [wcV.eq])
theorem o_dd (N:Nat):wk gd P 54 (wa false p_dd (g_dd N)) :=
 wh fun v K h=>wJ hE hP (wsc N) Tryz.func54 (by kernel_rfl) (body:=b_dd) (by kernel_rfl) (by kernel_rfl) (wn.of (by kernel_rfl) .nil) (loans:=BP.mkL p_dd.store v.2) rfl ((e_dd N v K).trans h)
noncomputable def wtI (N:Nat):CT:=(54,(wa false p_dd (g_dd N)))::ws6 N
theorem wsk (N:Nat):CTOK gd P (wtI N):=.cons (o_dd N) (wsc N)

noncomputable def i_de (N:Nat):Fi:={ loans:=0,owns:=true,results:=[.tmp 6],rtys:=[4],blks:=[],regs:=[],masks:=[] }
noncomputable def b_de:Code:=match Tryz.f18.body with | some c=>c | none=>.skip
noncomputable def p_de:Pt:=⟨[(.i (.int .i64)),(.i (.pair (.int .i64) (.pair (.int .i64) .unit))),(.i (.pair .bool (.pair (.sl (.int .i64)) (.pair (.sl (.int .i64)) .unit))))],[]⟩
noncomputable def z_de (F:type_of% @wds) (v:p_de.V) (K:KF α):Option α:=F N v.1.1 v.1.2.1 v.1.2.2.1 (fun o0_0=>K (.iv .bool o0_0) [])
noncomputable def g_de (v:p_de.V) (K:KF α):Option α:=z_de N @wds v K
theorem e_de (v:p_de.V) (K:KF α):wbB env (wtI N) (i_de N) Tryz.f18 (SP.mkL p_de.slots v.1) (BP.mkL p_de.store v.2) K=g_de N v K:=Eq.trans (b:=z_de N @wds.b v K) (by kernel_rfl) (by unfold g_de; rw [wds.eq])
theorem o_de (N:Nat):wk gd P 18 (wa false p_de (g_de N)) :=
 wh fun v K h=>wJ hE hP (wsk N) Tryz.func18 (by kernel_rfl) (body:=b_de) (by kernel_rfl) (by kernel_rfl) (wn.of (by kernel_rfl) .nil) (loans:=BP.mkL p_de.store v.2) rfl ((e_de N v K).trans h)
noncomputable def wtF (N:Nat):CT:=(18,(wa false p_de (g_de N)))::wtI N
theorem wso (N:Nat):CTOK gd P (wtF N):=.cons (o_de N) (wsk N)

noncomputable def i_df (N:Nat):Fi:={ loans:=0,owns:=true,results:=[.cell 6 25,.tmp 7],rtys:=[25,4],blks:=[],regs:=[],masks:=[] }
noncomputable def b_df:Code:=match Tryz.f75.body with | some c=>c | none=>.skip
noncomputable def p_df:Pt:=⟨[(.i .bool),(.i (.sl (.int .i64))),(.i (.sl (.int .i64)))],[]⟩
noncomputable def z_df (F:type_of% @wer) (v:p_df.V) (K:KF α):Option α:=F N v.1.1 v.1.2.1 v.1.2.2.1 (fun o0_0 o0_1 o0_2 o0_3=>K (.tuple [(.agg [(.iv .bool o0_0),(.own 0),(.own 1)]),(.iv .bool o0_1)]) [(.arr 3 (.int .i64) o0_2 false),(.arr 3 (.int .i64) o0_3 false)])
noncomputable def g_df (v:p_df.V) (K:KF α):Option α:=z_df N @wer v K
theorem e_df (v:p_df.V) (K:KF α):wbB env (wtF N) (i_df N) Tryz.f75 (SP.mkL p_df.slots v.1) (BP.mkL p_df.store v.2) K=g_df N v K:=Eq.trans (b:=z_df N @wer.b v K) (by kernel_rfl) (by unfold g_df; rw [wer.eq])
theorem o_df (N:Nat):wk gd P 75 (wa false p_df (g_df N)) :=
 wh fun v K h=>wJ hE hP (wso N) Tryz.func75 (by kernel_rfl) (body:=b_df) (by kernel_rfl) (by kernel_rfl) (wn.of (by kernel_rfl) .nil) (loans:=BP.mkL p_df.store v.2) rfl ((e_df N v K).trans h)
noncomputable def wrc (N:Nat):CT:=(75,(wa false p_df (g_df N)))::wtF N
theorem wp2 (N:Nat):CTOK gd P (wrc N):=.cons (o_df N) (wso N)

noncomputable def p_dg:Pt:=⟨(.p 0 [] 0)::.u::.u::(.i (.int .u64))::(.i (.int .i64))::ups 11 ([]),[(.box 107 (.i (.pair (.sl (.int .u8)) (.pair (.int .i64) .unit))) false)]⟩
noncomputable def z_dg (F:type_of% (@wR α 0 0)) (v:p_dg.V) (K:KO α):Option α:=F v.1.2.2.2.1 v.1.2.2.2.2.1 v.2.1 (fun o0_0 o0_1=>K (.normal ⟨U::U::U::(.iv (.int .u64) o0_0)::us 12 ([]),[(.box 107 (.iv (.pair (.sl (.int .u8)) (.pair (.int .i64) .unit)) o0_1) false)]⟩))
noncomputable def g_dg (n:Nat) (v:p_dg.V) (K:KO α):Option α:=z_dg (wR N n) v K
noncomputable def q_dg (N:Nat):Piece:=(wj 321 p_dg (g_dg N N))
noncomputable def i_dh (N:Nat):Fi:={ loans:=1,owns:=true,results:=[.tmp 2],rtys:=[77],blks:=[(0,q_dg N)],regs:=[],masks:=[(0,64)] }
noncomputable def b_dh:Code:=match Tryz.f156.body with | some c=>c | none=>.skip
noncomputable def n_dg:Code:=(.block 0 (.loop (wq b_dh [1,1,0,1,0,0])))
theorem e_dg (n:Nat) (v:p_dg.V) (K:KO α):wbe env (wrc N) (i_dh N) 321 (wj 321 p_dg (g_dg N n)).run n_dg (p_dg.mk' v) K=g_dg N (n + 1) v K:=Eq.trans (b:=z_dg (fun x0 x1 x2 k0=>wfo N (fun y0 y1 y2=>wR N n y0 y1 y2 k0) k0 x0 x1 x2) v K) (by kernel_rfl) (by unfold g_dg z_dg; rw [wR.succ])
theorem o_dg (N:Nat):wv gd P (i_dh N) n_dg (q_dg N) :=
 wI hE hP (wp2 N) (wn.of (by kernel_rfl) .nil) (fun n {_}=>g_dg N n) (fun _ _=>wR.zero ..) (fun n {_} v K=>e_dg N n v K) N
noncomputable def p_dh:Pt:=⟨[(.p 0 [] 0)],[(.box 107 (.i (.pair (.sl (.int .u8)) (.pair (.int .i64) .unit))) false)]⟩
noncomputable def z_dh (F:type_of% @wdp) (v:p_dh.V) (K:KF α):Option α:=F N v.2.1 (fun o0_0 o0_1=>K (.iv (.int .u64) o0_0) [(.box 107 (.iv (.pair (.sl (.int .u8)) (.pair (.int .i64) .unit)) o0_1) false)])
noncomputable def g_dh (v:p_dh.V) (K:KF α):Option α:=z_dh N @wdp v K
theorem e_dh (v:p_dh.V) (K:KF α):wbB env (wrc N) (i_dh N) Tryz.f156 (SP.mkL p_dh.slots v.1) (BP.mkL p_dh.store v.2) K=g_dh N v K:=Eq.trans (b:=z_dh N @wdp.b v K) (by kernel_rfl) (by unfold g_dh; rw [wdp.eq])
theorem o_dh (N:Nat):wk gd P 156 (wa false p_dh (g_dh N)) :=
 wh fun v K h=>wJ hE hP (wp2 N) Tryz.func156 (by kernel_rfl) (body:=b_dh) (by kernel_rfl) (by kernel_rfl) (wn.of (by kernel_rfl) (.cons (o_dg N) .nil)) (loans:=BP.mkL p_dh.store v.2) rfl ((e_dh N v K).trans h)
noncomputable def wkK (N:Nat):CT:=(156,(wa false p_dh (g_dh N)))::wrc N
theorem wi9 (N:Nat):CTOK gd P (wkK N):=.cons (o_dh N) (wp2 N)

noncomputable def p_di:Pt:=⟨(.p 0 [] 0)::(.i (.int .i64))::.u::.u::.u::(.i (.int .i64))::ups 4 ((.i (.int .i64))::ups 61 ([])),[(.box 107 (.i (.pair (.sl (.int .u8)) (.pair (.int .i64) .unit))) false)]⟩
noncomputable def z_di (F:type_of% @wbZ) (v:p_di.V) (K:KO α):Option α:=F N v.1.2.1 v.1.2.2.2.2.2.1 (nx 4 v.1.2.2.2.2.2.2).1 v.2.1 (fun o0_0 o0_1 o0_2 o0_3 o0_4=>K (.normal ⟨(.lp 0 [] 0)::(.iv (.int .i64) o0_0)::U::U::U::(.iv (.int .i64) o0_1)::us 4 ((.iv (.int .i64) o0_2)::us 20 ((.iv .bool o0_3)::us 40 ([]))),[(.box 107 (.iv (.pair (.sl (.int .u8)) (.pair (.int .i64) .unit)) o0_4) false)]⟩))
noncomputable def g_di (v:p_di.V) (K:KO α):Option α:=z_di N @wbZ v K
noncomputable def p_dj:Pt:=⟨(.p 0 [] 0)::(.i (.int .i64))::.u::.u::.u::(.i (.int .i64))::(.i (.int .i64))::ups 65 ([]),[(.box 107 (.i (.pair (.sl (.int .u8)) (.pair (.int .i64) .unit))) false)]⟩
noncomputable def z_dj (F:type_of% @wbr) (v:p_dj.V) (K:KO α):Option α:=F N v.1.2.1 v.1.2.2.2.2.2.1 v.1.2.2.2.2.2.2.1 v.2.1 (fun o0_0 o0_1 o0_2=>K (.normal ⟨(.lp 0 [] 0)::us 4 ((.iv (.int .i64) o0_0)::(.iv (.int .i64) o0_1)::us 65 ([])),[(.box 107 (.iv (.pair (.sl (.int .u8)) (.pair (.int .i64) .unit)) o0_2) false)]⟩))
noncomputable def g_dj (v:p_dj.V) (K:KO α):Option α:=z_dj N @wbr v K
noncomputable def p_dk:Pt:=⟨(.p 0 [] 0)::ups 4 ((.i (.int .i64))::(.i (.int .i64))::ups 65 ([])),[(.box 107 (.i (.pair (.sl (.int .u8)) (.pair (.int .i64) .unit))) false)]⟩
noncomputable def z_dk (F:type_of% @wci) (v:p_dk.V) (K:KO α):Option α:=F N (nx 4 v.1.2).1 (nx 4 v.1.2).2.1 v.2.1 (fun o0_0 o0_1 o0_2=>K (.normal ⟨(.lp 0 [] 0)::us 4 ((.iv (.int .i64) o0_0)::(.iv (.int .i64) o0_1)::us 65 ([])),[(.box 107 (.iv (.pair (.sl (.int .u8)) (.pair (.int .i64) .unit)) o0_2) false)]⟩))
noncomputable def g_dk (v:p_dk.V) (K:KO α):Option α:=z_dk N @wci v K
noncomputable def p_dl:Pt:=⟨(.p 0 [] 0)::ups 4 ((.i (.int .i64))::ups 4 ((.i (.int .i64))::ups 61 ([]))),[(.box 107 (.i (.pair (.sl (.int .u8)) (.pair (.int .i64) .unit))) false)]⟩
noncomputable def z_dl (F:type_of% @wbg) (v:p_dl.V) (K:KO α):Option α:=F N (nx 4 v.1.2).1 (nx 4 (nx 4 v.1.2).2).1 v.2.1 (fun o0_0 o0_1 o0_2=>K (.normal ⟨(.lp 0 [] 0)::us 4 ((.iv (.int .i64) o0_0)::(.iv (.int .i64) o0_1)::us 65 ([])),[(.box 107 (.iv (.pair (.sl (.int .u8)) (.pair (.int .i64) .unit)) o0_2) false)]⟩))
noncomputable def g_dl (v:p_dl.V) (K:KO α):Option α:=z_dl N @wbg v K
noncomputable def p_dm:Pt:=⟨(.p 0 [] 0)::(.i (.int .i64))::.u::.u::.u::(.i (.int .i64))::ups 4 ((.i (.int .i64))::ups 61 ([])),[(.box 107 (.i (.pair (.sl (.int .u8)) (.pair (.int .i64) .unit))) false)]⟩
noncomputable def z_dm (F:type_of% @wbi) (v:p_dm.V) (K:KO α):Option α:=F N v.1.2.1 v.1.2.2.2.2.2.1 (nx 4 v.1.2.2.2.2.2.2).1 v.2.1 (fun o0_0 o0_1 o0_2=>K (.normal ⟨(.lp 0 [] 0)::us 4 ((.iv (.int .i64) o0_0)::(.iv (.int .i64) o0_1)::us 65 ([])),[(.box 107 (.iv (.pair (.sl (.int .u8)) (.pair (.int .i64) .unit)) o0_2) false)]⟩))
noncomputable def g_dm (v:p_dm.V) (K:KO α):Option α:=z_dm N @wbi v K
noncomputable def p_dn:Pt:=⟨(.p 0 [] 0)::(.i (.int .i64))::.u::.u::.u::(.i (.int .i64))::ups 4 ((.i (.int .i64))::ups 61 ([])),[(.box 107 (.i (.pair (.sl (.int .u8)) (.pair (.int .i64) .unit))) false)]⟩
noncomputable def z_dn (F:type_of% @wb1) (v:p_dn.V) (K:KO α):Option α:=F N v.1.2.1 v.1.2.2.2.2.2.1 (nx 4 v.1.2.2.2.2.2.2).1 v.2.1 (fun o0_0 o0_1 o0_2=>K (.normal ⟨(.lp 0 [] 0)::us 4 ((.iv (.int .i64) o0_0)::(.iv (.int .i64) o0_1)::us 65 ([])),[(.box 107 (.iv (.pair (.sl (.int .u8)) (.pair (.int .i64) .unit)) o0_2) false)]⟩))
noncomputable def g_dn (v:p_dn.V) (K:KO α):Option α:=z_dn N @wb1 v K
noncomputable def p_do:Pt:=⟨(.p 0 [] 0)::ups 4 ((.i (.int .i64))::(.i (.int .i64))::ups 65 ([])),[(.box 107 (.i (.pair (.sl (.int .u8)) (.pair (.int .i64) .unit))) false)]⟩
noncomputable def z_do (F:type_of% @wcI) (v:p_do.V) (K:KO α):Option α:=F N (nx 4 v.1.2).1 (nx 4 v.1.2).2.1 v.2.1 (fun o0_0 o0_1=>K (.normal ⟨(.lp 0 [] 0)::us 5 ((.iv (.int .i64) o0_0)::us 65 ([])),[(.box 107 (.iv (.pair (.sl (.int .u8)) (.pair (.int .i64) .unit)) o0_1) false)]⟩))
noncomputable def g_do (v:p_do.V) (K:KO α):Option α:=z_do N @wcI v K
noncomputable def p_dp:Pt:=⟨(.p 0 [] 0)::ups 4 ((.i (.int .i64))::(.i (.int .i64))::ups 65 ([])),[(.box 107 (.i (.pair (.sl (.int .u8)) (.pair (.int .i64) .unit))) false)]⟩
noncomputable def z_dp (F:type_of% @wbQ) (v:p_dp.V) (K:KO α):Option α:=F N (nx 4 v.1.2).1 (nx 4 v.1.2).2.1 v.2.1 (fun o0_0 o0_1=>K (.normal ⟨(.lp 0 [] 0)::us 5 ((.iv (.int .i64) o0_0)::us 65 ([])),[(.box 107 (.iv (.pair (.sl (.int .u8)) (.pair (.int .i64) .unit)) o0_1) false)]⟩))
noncomputable def g_dp (v:p_dp.V) (K:KO α):Option α:=z_dp N @wbQ v K
noncomputable def q_di (N:Nat):Piece:=(wj 1049605 p_di (g_di N))
noncomputable def q_dj (N:Nat):Piece:=(wj 5125 p_dj (g_dj N))
noncomputable def q_dk (N:Nat):Piece:=(wj 5121 p_dk (g_dk N))
noncomputable def q_dl (N:Nat):Piece:=(wj 1049601 p_dl (g_dl N))
noncomputable def q_dm (N:Nat):Piece:=(wj 1049605 p_dm (g_dm N))
noncomputable def q_dn (N:Nat):Piece:=(wj 1049605 p_dn (g_dn N))
noncomputable def q_do (N:Nat):Piece:=(wj 5121 p_do (g_do N))
noncomputable def q_dp (N:Nat):Piece:=(wj 5121 p_dp (g_dp N))
noncomputable def i_dq (N:Nat):Fi:={ loans:=1,owns:=true,results:=[.tmp 4],rtys:=[3],blks:=[],regs:=[(11,q_di N),(14,q_dj N),(5,q_dk N),(16,q_dl N),(9,q_dm N),(7,q_dn N),(20,q_do N),(18,q_dp N)],masks:=[] }
noncomputable def b_dq:Code:=match Tryz.f128.body with | some c=>c | none=>.skip
noncomputable def n_di:Code:=(.seq (wq b_dq [1,1,1,0,1,0,1,1,1,1,0,0]) (wq b_dq [1,1,1,0,1,0,1,1,1,1,0,1]))
noncomputable def n_dj:Code:=(.seq (wq b_dq [1,1,1,0,1,0,1,1,1,1,1,0,1,0]) (wq b_dq [1,1,1,0,1,0,1,1,1,1,1,0,1,1]))
noncomputable def n_dk:Code:=(.seq (wq b_dq [1,1,1,0,1,0,1,1,1,1,1,1,1,1,1,0]) (wq b_dq [1,1,1,0,1,0,1,1,1,1,1,1,1,1,1,1]))
noncomputable def n_dl:Code:=(.seq (wq b_dq [1,1,1,0,1,0,1,1,1,1,1,1,0]) (wq b_dq [1,1,1,0,1,0,1,1,1,1,1,1,1]))
noncomputable def n_dm:Code:=(.seq (wq b_dq [1,1,1,0,1,0,1,1,0]) (wq b_dq [1,1,1,0,1,0,1,1,1]))
noncomputable def n_dn:Code:=(.seq (wq b_dq [1,1,1,0,1,0,0]) (wq b_dq [1,1,1,0,1,0,1]))
noncomputable def n_do:Code:=(.seq (wq b_dq [1,1,1,1,0,1,1,0]) (wq b_dq [1,1,1,1,0,1,1,1]))
noncomputable def n_dp:Code:=(.seq (wq b_dq [1,1,1,1,0,0]) (wq b_dq [1,1,1,1,0,1]))
theorem e_di (v:p_di.V) (K:KO α):wcK env (wkK N) (i_dq N) 4611686018428437509 n_di (p_di.mk' v) K=g_di N v K:=Eq.trans (b:=z_di N @wbZ.b v K) (by kernel_rfl) (by unfold g_di; rw [wbZ.eq])
theorem o_di (N:Nat):wv gd P (i_dq N) n_di (q_di N) :=
 wG hE hP (wi9 N) (wn.of (by kernel_rfl) .nil) (wn.of (by kernel_rfl) .nil) (e_di N)
theorem e_dj (v:p_dj.V) (K:KO α):wcK env (wkK N) (i_dq N) 5121 n_dj (p_dj.mk' v) K=g_dj N v K:=Eq.trans (b:=z_dj N @wbr.b v K) (by kernel_rfl) (by unfold g_dj; rw [wbr.eq])
theorem o_dj (N:Nat):wv gd P (i_dq N) n_dj (q_dj N) :=
 wG hE hP (wi9 N) (wn.of (by kernel_rfl) .nil) (wn.of (by kernel_rfl) .nil) (e_dj N)
theorem e_dk (v:p_dk.V) (K:KO α):wcK env (wkK N) (i_dq N) 5121 n_dk (p_dk.mk' v) K=g_dk N v K:=Eq.trans (b:=z_dk N @wci.b v K) (by kernel_rfl) (by unfold g_dk; rw [wci.eq])
theorem o_dk (N:Nat):wv gd P (i_dq N) n_dk (q_dk N) :=
 wG hE hP (wi9 N) (wn.of (by kernel_rfl) .nil) (wn.of (by kernel_rfl) .nil) (e_dk N)
theorem e_dl (v:p_dl.V) (K:KO α):wcK env (wkK N) (i_dq N) 5121 n_dl (p_dl.mk' v) K=g_dl N v K:=Eq.trans (b:=z_dl N @wbg.b v K) (by kernel_rfl) (by unfold g_dl; rw [wbg.eq])
theorem o_dl (N:Nat):wv gd P (i_dq N) n_dl (q_dl N) :=
 wG hE hP (wi9 N) (wn.of (by kernel_rfl) .nil) (wn.of (by kernel_rfl) (.cons (o_dk N) .nil)) (e_dl N)
theorem e_dm (v:p_dm.V) (K:KO α):wcK env (wkK N) (i_dq N) 5121 n_dm (p_dm.mk' v) K=g_dm N v K:=Eq.trans (b:=z_dm N @wbi.b v K) (by kernel_rfl) (by unfold g_dm; rw [wbi.eq])
theorem o_dm (N:Nat):wv gd P (i_dq N) n_dm (q_dm N) :=
 wG hE hP (wi9 N) (wn.of (by kernel_rfl) .nil) (wn.of (by kernel_rfl) (.cons (o_di N) (.cons (o_dj N) (.cons (o_dl N) .nil)))) (e_dm N)
theorem e_dn (v:p_dn.V) (K:KO α):wcK env (wkK N) (i_dq N) 5121 n_dn (p_dn.mk' v) K=g_dn N v K:=Eq.trans (b:=z_dn N @wb1.b v K) (by kernel_rfl) (by unfold g_dn; rw [wb1.eq])
theorem o_dn (N:Nat):wv gd P (i_dq N) n_dn (q_dn N) :=
 wG hE hP (wi9 N) (wn.of (by kernel_rfl) .nil) (wn.of (by kernel_rfl) (.cons (o_dm N) .nil)) (e_dn N)
theorem e_do (v:p_do.V) (K:KO α):wcK env (wkK N) (i_dq N) 4097 n_do (p_do.mk' v) K=g_do N v K:=Eq.trans (b:=z_do N @wcI.b v K) (by kernel_rfl) (by unfold g_do; rw [wcI.eq])
end
end
end Go.Proofs.YtnhbcpmmdblkjaaGreatDoorAm
