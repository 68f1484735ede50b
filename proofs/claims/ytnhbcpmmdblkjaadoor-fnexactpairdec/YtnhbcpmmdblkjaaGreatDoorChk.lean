/-
  The functions are what the program computes. Printed by amp.py.
-/
import Derived.Test.YtnhbcpmmdblkjaaGreatDoorFns
import Derived.Test.YtnhbcpmmdblkjaaGreatDoorProg
namespace Go.Proofs.YtnhbcpmmdblkjaaGreatDoorAm
open Go
noncomputable section
set_option linter.unusedVariables false
set_option linter.unusedSimpArgs false
noncomputable abbrev P : Program := Go.Proofs.Tryz.prog
abbrev KF (α : Type) : Type := HV → List Blk → Option α
abbrev KO (α : Type) : Type := Out → Option α
abbrev U : HV := .undef
def env : Env where
  sl := [(23, 3, (.int .i64)), (127, 23, (.sl (.int .i64)))]
  ty := [(3, (.int .i64)), (4, .bool), (5, (.int .u8)), (9, .str), (23, (.sl (.int .i64))), (25, (.pair .bool (.pair (.sl (.int .i64)) (.pair (.sl (.int .i64)) .unit)))), (35, (.pair (.int .i64) (.pair (.int .i64) .unit))), (77, (.int .u64)), (111, (.pair (.int .i64) (.pair (.int .i64) (.pair (.int .i64) (.pair (.int .i64) .unit))))), (116, (.pair .bool (.pair (.int .u64) (.pair (.int .i64) .unit)))), (122, (.pair .bool (.pair (.sl (.int .i64)) (.pair (.sl (.int .i64)) .unit)))), (127, (.sl (.sl (.int .i64)))), (129, (.int .u64))]
  lay := [(3, 1, false), (4, 1, false), (23, 1, false), (25, 3, true), (35, 2, true), (77, 1, false), (111, 4, true), (116, 3, true), (122, 3, true)]
  fo := [(25, [0, 1, 2]), (35, [0, 1]), (111, [0, 1, 2, 3]), (116, [0, 1, 2]), (122, [0, 1, 2])]
  lim := [(3, 8796093022208)]
  cut := []
  ifs := [139]
  zs := [(25, [3, 3]), (122, [3, 3])]
  eqs := []
theorem hE : EnvOK P env := envB_ok (by kernel_rfl) (eqs_ok (by kernel_rfl))
theorem hP : P.follows .mixedOrders = true := by kernel_rfl

section
variable (N : Nat) {α : Type}
open Go.Shelf
def lays219_ren : Go.Shelf.Ren := ⟨fun | 219 => 121 | 217 => 146 | 225 => 147 | 224 => 148 | 267 => 149 | 266 => 171 | 314 => 172 | n => n, fun | 9 => 9 | 3 => 3 | 4 => 4 | 5 => 5 | 46 => 129 | 146 => 157 | 51 => 154 | n => n, fun | 1 => 0 | n => n⟩
theorem lays219 : Go.Proofs.Lays.n219 Tryz.prog lays219_ren := {
  mixed := by kernel_rfl
  f217 := Tryz.func146.trans (congrArg some (by kernel_rfl))
  f219 := Tryz.func121.trans (congrArg some (by kernel_rfl))
  f224 := Tryz.func148.trans (congrArg some (by kernel_rfl))
  f225 := Tryz.func147.trans (congrArg some (by kernel_rfl))
  f266 := Tryz.func171.trans (congrArg some (by kernel_rfl))
  f267 := Tryz.func149.trans (congrArg some (by kernel_rfl))
  f314 := Tryz.func172.trans (congrArg some (by kernel_rfl))
  t3 := Tryz.underlying3
  a3 := Tryz.isAgg3
  z3 := Tryz.sizeOf3
  v3 := Tryz.zeroValue3
  t4 := Tryz.underlying4
  a4 := Tryz.isAgg4
  z4 := Tryz.sizeOf4
  v4 := Tryz.zeroValue4
  t5 := Tryz.underlying5
  a5 := Tryz.isAgg5
  z5 := Tryz.sizeOf5
  v5 := Tryz.zeroValue5
  t9 := Tryz.underlying9
  a9 := Tryz.isAgg9
  z9 := Tryz.sizeOf9
  v9 := Tryz.zeroValue9
  t46 := Tryz.underlying129
  a46 := Tryz.isAgg129
  z46 := Tryz.sizeOf129
  v46 := Tryz.zeroValue129
  t51 := Tryz.underlying154
  a51 := Tryz.isAgg154
  z51 := Tryz.sizeOf154
  v51 := Tryz.zeroValue154
  t146 := Tryz.underlying157
  a146 := Tryz.isAgg157
  z146 := Tryz.sizeOf157
  v146 := Tryz.zeroValue157
  g1 := by kernel_rfl }
def lays29_ren : Go.Shelf.Ren := ⟨fun | 29 => 158 | n => n, fun | 22 => 77 | 3 => 3 | 4 => 4 | 25 => 129 | 54 => 186 | 0 => 0 | 5 => 5 | n => n, fun | 1 => 1 | n => n⟩
theorem lays29 : Go.Proofs.Lays7.n29 Tryz.prog lays29_ren := {
  mixed := by kernel_rfl
  f29 := Tryz.func158.trans (congrArg some (by kernel_rfl))
  t0 := Tryz.underlying0
  a0 := Tryz.isAgg0
  z0 := Tryz.sizeOf0
  v0 := Tryz.zeroValue0
  i0 := by kernel_rfl
  t3 := Tryz.underlying3
  a3 := Tryz.isAgg3
  z3 := Tryz.sizeOf3
  v3 := Tryz.zeroValue3
  i3 := by kernel_rfl
  t4 := Tryz.underlying4
  a4 := Tryz.isAgg4
  z4 := Tryz.sizeOf4
  v4 := Tryz.zeroValue4
  i4 := by kernel_rfl
  t5 := Tryz.underlying5
  a5 := Tryz.isAgg5
  z5 := Tryz.sizeOf5
  v5 := Tryz.zeroValue5
  i5 := by kernel_rfl
  t22 := Tryz.underlying77
  a22 := Tryz.isAgg77
  z22 := Tryz.sizeOf77
  v22 := Tryz.zeroValue77
  i22 := by kernel_rfl
  t25 := Tryz.underlying129
  a25 := Tryz.isAgg129
  z25 := Tryz.sizeOf129
  v25 := Tryz.zeroValue129
  i25 := by kernel_rfl
  t54 := Tryz.underlying186
  a54 := Tryz.isAgg186
  z54 := Tryz.sizeOf186
  g1 := by kernel_rfl }
def lays172_ren : Go.Shelf.Ren := ⟨fun | 172 => 125 | 244 => 151 | 245 => 152 | 247 => 173 | 279 => 174 | 280 => 175 | 281 => 176 | 282 => 177 | 287 => 183 | 316 => 184 | 171 => 65 | 205 => 185 | 321 => 187 | 322 => 188 | 243 => 108 | 246 => 141 | 283 => 165 | 284 => 166 | 285 => 167 | 286 => 168 | 129 => 140 | 317 => 179 | 318 => 180 | 319 => 181 | 320 => 182 | 337 => 186 | 338 => 158 | n => n, fun | 9 => 9 | 3 => 3 | 75 => 139 | 76 => 140 | 4 => 4 | 5 => 5 | 167 => 180 | 37 => 22 | 0 => 0 | 85 => 181 | 2 => 2 | 168 => 183 | 53 => 77 | 175 => 190 | 46 => 129 | 210 => 194 | 127 => 161 | 145 => 199 | 143 => 197 | 21 => 21 | 171 => 172 | 173 => 174 | 212 => 188 | 51 => 154 | 20 => 20 | 213 => 189 | 232 => 200 | 233 => 186 | 80 => 71 | n => n, fun | 15 => 3 | 16 => 4 | 17 => 2 | 18 => 5 | 19 => 1 | n => n⟩
theorem lays172 : Go.Proofs.LaysC.n172 Tryz.prog lays172_ren := {
  mixed := by kernel_rfl
  f129 := Tryz.func140.trans (congrArg some (by kernel_rfl))
  f171 := Tryz.func65.trans (congrArg some (by kernel_rfl))
  f172 := Tryz.func125.trans (congrArg some (by kernel_rfl))
  f205 := Tryz.func185.trans (congrArg some (by kernel_rfl))
  f243 := Tryz.func108.trans (congrArg some (by kernel_rfl))
  f244 := Tryz.func151.trans (congrArg some (by kernel_rfl))
  f245 := Tryz.func152.trans (congrArg some (by kernel_rfl))
  f246 := Tryz.func141.trans (congrArg some (by kernel_rfl))
  f247 := Tryz.func173.trans (congrArg some (by kernel_rfl))
  f279 := Tryz.func174.trans (congrArg some (by kernel_rfl))
  f280 := Tryz.func175.trans (congrArg some (by kernel_rfl))
  f281 := Tryz.func176.trans (congrArg some (by kernel_rfl))
  f282 := Tryz.func177.trans (congrArg some (by kernel_rfl))
  f283 := Tryz.func165.trans (congrArg some (by kernel_rfl))
  f284 := Tryz.func166.trans (congrArg some (by kernel_rfl))
  f285 := Tryz.func167.trans (congrArg some (by kernel_rfl))
  f286 := Tryz.func168.trans (congrArg some (by kernel_rfl))
  f287 := Tryz.func183.trans (congrArg some (by kernel_rfl))
  f316 := Tryz.func184.trans (congrArg some (by kernel_rfl))
  f317 := Tryz.func179.trans (congrArg some (by kernel_rfl))
  f318 := Tryz.func180.trans (congrArg some (by kernel_rfl))
  f319 := Tryz.func181.trans (congrArg some (by kernel_rfl))
  f320 := Tryz.func182.trans (congrArg some (by kernel_rfl))
  f321 := Tryz.func187.trans (congrArg some (by kernel_rfl))
  f322 := Tryz.func188.trans (congrArg some (by kernel_rfl))
  f337 := Tryz.func186.trans (congrArg some (by kernel_rfl))
  f338 := Tryz.func158.trans (congrArg some (by kernel_rfl))
  t0 := Tryz.underlying0
  a0 := Tryz.isAgg0
  z0 := Tryz.sizeOf0
  v0 := Tryz.zeroValue0
  t2 := Tryz.underlying2
  a2 := Tryz.isAgg2
  z2 := Tryz.sizeOf2
  v2 := Tryz.zeroValue2
  t3 := Tryz.underlying3
  a3 := Tryz.isAgg3
  z3 := Tryz.sizeOf3
  v3 := Tryz.zeroValue3
  t4 := Tryz.underlying4
  a4 := Tryz.isAgg4
  z4 := Tryz.sizeOf4
  v4 := Tryz.zeroValue4
  t5 := Tryz.underlying5
  a5 := Tryz.isAgg5
  z5 := Tryz.sizeOf5
  v5 := Tryz.zeroValue5
  t9 := Tryz.underlying9
  a9 := Tryz.isAgg9
  z9 := Tryz.sizeOf9
  v9 := Tryz.zeroValue9
  t20 := Tryz.underlying20
  a20 := Tryz.isAgg20
  z20 := Tryz.sizeOf20
  v20 := Tryz.zeroValue20
  t21 := Tryz.underlying21
  a21 := Tryz.isAgg21
  z21 := Tryz.sizeOf21
  v21 := Tryz.zeroValue21
  t37 := Tryz.underlying22
  a37 := Tryz.isAgg22
  z37 := Tryz.sizeOf22
  v37 := Tryz.zeroValue22
  t46 := Tryz.underlying129
  a46 := Tryz.isAgg129
  z46 := Tryz.sizeOf129
  v46 := Tryz.zeroValue129
  t51 := Tryz.underlying154
  a51 := Tryz.isAgg154
  z51 := Tryz.sizeOf154
  v51 := Tryz.zeroValue154
  t53 := Tryz.underlying77
  a53 := Tryz.isAgg77
  z53 := Tryz.sizeOf77
  v53 := Tryz.zeroValue77
  t75 := Tryz.underlying139
  a75 := Tryz.isAgg139
  z75 := Tryz.sizeOf139
  v75 := Tryz.zeroValue139
  t76 := Tryz.underlying140
  a76 := Tryz.isAgg140
  z76 := Tryz.sizeOf140
  v76 := Tryz.zeroValue140
  t85 := Tryz.underlying181
  a85 := Tryz.isAgg181
  z85 := Tryz.sizeOf181
  v85 := Tryz.zeroValue181
  t127 := Tryz.underlying161
  a127 := Tryz.isAgg161
  z127 := Tryz.sizeOf161
  v127 := Tryz.zeroValue161
  t143 := Tryz.underlying197
  a143 := Tryz.isAgg197
  z143 := Tryz.sizeOf197
  v143 := Tryz.zeroValue197
  t145 := Tryz.underlying199
  a145 := Tryz.isAgg199
  z145 := Tryz.sizeOf199
  v145 := Tryz.zeroValue199
  t167 := Tryz.underlying180
  a167 := Tryz.isAgg180
  z167 := Tryz.sizeOf180
  v167 := Tryz.zeroValue180
  t168 := Tryz.underlying183
  a168 := Tryz.isAgg183
  z168 := Tryz.sizeOf183
  v168 := Tryz.zeroValue183
  t171 := Tryz.underlying172
  a171 := Tryz.isAgg172
  z171 := Tryz.sizeOf172
  v171 := Tryz.zeroValue172
  t173 := Tryz.underlying174
  a173 := Tryz.isAgg174
  z173 := Tryz.sizeOf174
  v173 := Tryz.zeroValue174
  t175 := Tryz.underlying190
  a175 := Tryz.isAgg190
  z175 := Tryz.sizeOf190
  v175 := Tryz.zeroValue190
  t210 := Tryz.underlying194
  a210 := Tryz.isAgg194
  z210 := Tryz.sizeOf194
  v210 := Tryz.zeroValue194
  t212 := Tryz.underlying188
  a212 := Tryz.isAgg188
  z212 := Tryz.sizeOf188
  v212 := Tryz.zeroValue188
  t213 := Tryz.underlying189
  a213 := Tryz.isAgg189
  z213 := Tryz.sizeOf189
  t232 := Tryz.underlying200
  a232 := Tryz.isAgg200
  z232 := Tryz.sizeOf200
  v232 := Tryz.zeroValue200
  t233 := Tryz.underlying186
  a233 := Tryz.isAgg186
  z233 := Tryz.sizeOf186
  v233 := Tryz.zeroValue186
  g15 := by kernel_rfl
  g16 := by kernel_rfl
  g17 := by kernel_rfl
  g18 := by kernel_rfl
  g19 := by kernel_rfl
  t80 := Tryz.underlying71
  a80 := Tryz.isAgg71
  z80 := Tryz.sizeOf71
  v80 := Tryz.zeroValue71
  i0 := by kernel_rfl
  i2 := by kernel_rfl
  i3 := by kernel_rfl
  i4 := by kernel_rfl
  i5 := by kernel_rfl
  i9 := by kernel_rfl
  i20 := by kernel_rfl
  i21 := by kernel_rfl
  i37 := by kernel_rfl
  i46 := by kernel_rfl
  i51 := by kernel_rfl
  i53 := by kernel_rfl
  i75 := by kernel_rfl
  i76 := by kernel_rfl
  i80 := by kernel_rfl
  i85 := by kernel_rfl
  i127 := by kernel_rfl
  i143 := by kernel_rfl
  i145 := by kernel_rfl
  i167 := by kernel_rfl
  i168 := by kernel_rfl
  i171 := by kernel_rfl
  i173 := by kernel_rfl
  i175 := by kernel_rfl
  i210 := by kernel_rfl
  i212 := by kernel_rfl
  i232 := by kernel_rfl
  i233 := by kernel_rfl
  m15 := by kernel_rfl
  m16 := by kernel_rfl
  m17 := by kernel_rfl
  m18 := by kernel_rfl
  m19 := by kernel_rfl
  c0 := by kernel_rfl
  c2 := by kernel_rfl
  c3 := by kernel_rfl
  c4 := by kernel_rfl
  c5 := by kernel_rfl
  c9 := by kernel_rfl
  c20 := by kernel_rfl
  c21 := by kernel_rfl
  c37 := by kernel_rfl
  c46 := by kernel_rfl
  c51 := by kernel_rfl
  c53 := by kernel_rfl
  c75 := by kernel_rfl
  c76 := by kernel_rfl
  c80 := by kernel_rfl
  c85 := by kernel_rfl
  c127 := by kernel_rfl
  c143 := by kernel_rfl
  c145 := by kernel_rfl
  c167 := by kernel_rfl
  c168 := by kernel_rfl
  c171 := by kernel_rfl
  c173 := by kernel_rfl
  c175 := by kernel_rfl
  c210 := by kernel_rfl
  c212 := by kernel_rfl
  c213 := by kernel_rfl
  c232 := by kernel_rfl
  c233 := by kernel_rfl }
abbrev gd : Gd := errGd 5 [⟨1, .u8, ctzTab⟩] [3, 4] (by kernel_rfl) (by kernel_rfl)
noncomputable def ct0 (N : Nat) : CT := []
theorem hct0 (N : Nat) : CTOK gd P (ct0 N) := .nil
noncomputable def p'a : Pt := ⟨[(.i .str), (.i (.int .i64)), .u, .u, .u, (.i (.int .i64)), .u, .u, .u, .u, .u, .u, .u, .u, .u, .u, .u, .u, .u, .u, .u, .u, .u, .u, .u, .u, .u, .u, .u, .u, .u], []⟩
noncomputable def g'a (n : Nat) (v : p'a.V) (K : KO α) : Option α := spec_l7Digits_L0 N n v.1.1 v.1.2.1 v.1.2.2.2.2.2.1 (fun o0_0 => K (.normal ⟨(us 5 [(.iv (.int .i64) o0_0), U, U, U, U, U, U, U, U, U, U, U, U, U, U, U, U, U, U, U, U, U, U, U, U, U]), []⟩))
noncomputable def q'a (N : Nat) : Piece := (mkPiece 1029 p'a (g'a N N))
noncomputable def i'b (N : Nat) : Fi := { loans := 0, owns := true, results := [.tmp 4], rtys := [3], blks := [(0, q'a N)], regs := [], masks := [(0, 1024)] }
noncomputable def b'b : Code := match Tryz.f86.body with | some c => c | none => .skip
theorem e'a (n : Nat) (v : p'a.V) (K : KO α) : runRound env (ct0 N) (i'b N) 1029 (mkPiece 1029 p'a (g'a N n)).run (.block 0 (.loop (codeAt b'b [1, 1, 0, 0, 0]))) (p'a.mk' v) K = g'a N (n + 1) v K := Eq.trans (b := spec_l7Digits_L0r N (fun y0 y1 y2 => spec_l7Digits_L0 N n y0 y1 y2 (fun o0_0 => K (.normal ⟨(us 5 [(.iv (.int .i64) o0_0), U, U, U, U, U, U, U, U, U, U, U, U, U, U, U, U, U, U, U, U, U, U, U, U, U]), []⟩))) (fun o0_0 => K (.normal ⟨(us 5 [(.iv (.int .i64) o0_0), U, U, U, U, U, U, U, U, U, U, U, U, U, U, U, U, U, U, U, U, U, U, U, U, U]), []⟩)) v.1.1 v.1.2.1 v.1.2.2.2.2.2.1) (by kernel_rfl) (by unfold g'a; rw [spec_l7Digits_L0.succ])
theorem o'a (N : Nat) : PieceOK gd P (i'b N) (.block 0 (.loop (codeAt b'b [1, 1, 0, 0, 0]))) (mkPiece 1029 p'a (g'a N N)) :=
  piece_loop hE hP (hct0 N) (AllOK.of (F := i'b N) (l := []) (by kernel_rfl) .nil) (fun n {_} => g'a N n) (fun _ _ => by unfold g'a; rw [spec_l7Digits_L0.zero]) (fun n {_} v K => e'a N n v K) N
theorem oq'a (N : Nat) : PieceOK gd P (i'b N) (.block 0 (.loop (codeAt b'b [1, 1, 0, 0, 0]))) (q'a N) := (o'a N)
noncomputable def p'b : Pt := ⟨[(.i .str), (.i (.int .i64))], []⟩
noncomputable def z'b (F : type_of% @spec_l7Digits) (v : p'b.V) (K : KF α) : Option α := F N v.1.1 v.1.2.1 (fun o0_0 => K (.iv (.int .i64) o0_0) [])
noncomputable def g'b (v : p'b.V) (K : KF α) : Option α := z'b N @spec_l7Digits v K
theorem e'b (v : p'b.V) (K : KF α) : runFn env (ct0 N) (i'b N) Tryz.f86 (SP.mkL p'b.slots v.1) (BP.mkL p'b.store v.2) K = g'b N v K := Eq.trans (b := z'b N @spec_l7Digits.b v K) (by kernel_rfl) (by unfold g'b; rw [spec_l7Digits.eq])
theorem o'b (N : Nat) : CalleeOK gd P 86 (mkCallee false p'b (g'b N)) :=
  callee_ok fun v K h => fn_snd hE hP (hct0 N) Tryz.func86 (by kernel_rfl) (body := b'b) (by kernel_rfl) (by kernel_rfl) (AllOK.of (F := i'b N) (l := [((.block 0 (.loop (codeAt b'b [1, 1, 0, 0, 0]))), q'a N)]) (by kernel_rfl) (.cons (oq'a N) .nil)) (loans := BP.mkL p'b.store v.2) rfl ((e'b N v K).trans h)
noncomputable def ct1 (N : Nat) : CT := (86, (mkCallee false p'b (g'b N))) :: ct0 N
theorem hct1 (N : Nat) : CTOK gd P (ct1 N) := .cons (o'b N) (hct0 N)

noncomputable def p'c : Pt := ⟨[(.i .str), .u, .u, .u, .u, .u, .u, (.i .str), (.i (.int .i64)), (.i (.int .i64)), .u, .u, .u, .u, .u, .u, .u, .u, .u, .u, .u, .u, .u, .u, .u, .u, .u, .u, .u, .u, .u, .u, .u, .u, .u, .u, .u, .u, .u, .u, .u, .u, .u, .u, .u, .u, .u, .u, .u, .u, .u, .u, .u, .u, .u, .u, .u, .u, .u, .u, .u, .u, .u, .u, .u, .u, .u, .u, .u, .u, .u, .u, .u, .u, .u, .u, .u, .u, .u, .u, .u, .u, .u, .u, .u, .u, .u, .u, .u, .u, .u, .u, .u, .u, .u, .u, .u, .u, .u, .u, .u, .u, .u, .u, .u, .u, .u, .u, .u, .u, .u, .u, .u, .u, .u, .u, .u, .u, .u, .u, .u, .u, .u, .u, .u, .u, .u, .u, .u, .u, .u, .u, .u, .u, .u, .u, .u, .u, .u, .u, .u, .u, .u, .u, .u, .u, .u, .u], []⟩
noncomputable def z'c (F : type_of% @spec_l7Parts_J9) (v : p'c.V) (K : KO α) : Option α := F N v.1.1 v.1.2.2.2.2.2.2.2.1 v.1.2.2.2.2.2.2.2.2.1 v.1.2.2.2.2.2.2.2.2.2.1 (fun o0_0 o0_1 o0_2 o0_3 => K (.ret (.tuple [(.iv .str o0_0), (.iv (.int .i64) o0_1), (.iv (.int .i64) o0_2), (.iv .bool o0_3)]) [])) (fun o1_0 o1_1 o1_2 o1_3 => K (.normal ⟨[(.iv .str o1_0), U, U, U, U, U, U, (.iv .str o1_1), (.iv (.int .i64) o1_2), (.iv (.int .i64) o1_3), U, U, U, U, U, U, U, U, U, U, U, U, U, U, U, U, U, U, U, U, U, U, U, U, U, U, U, U, U, U, U, U, U, U, U, U, U, U, U, U, U, U, U, U, U, U, U, U, U, U, U, U, U, U, U, U, U, U, U, U, U, U, U, U, U, U, U, U, U, U, U, U, U, U, U, U, U, U, U, U, U, U, U, U, U, U, U, U, U, U, U, U, U, U, U, U, U, U, U, U, U, U, U, U, U, U, U, U, U, U, U, U, U, U, U, U, U, U, U, U, U, U, U, U, U, U, U, U, U, U, U, U, U, U, U, U, U, U], []⟩))
noncomputable def g'c (v : p'c.V) (K : KO α) : Option α := z'c N @spec_l7Parts_J9 v K
noncomputable def p'd : Pt := ⟨[(.i .str), .u, .u, .u, .u, .u, .u, (.i .str), (.i (.int .i64)), (.i (.int .i64)), (.i (.int .i64)), (.i .bool), .u, .u, .u, .u, .u, .u, .u, .u, .u, .u, .u, .u, .u, .u, .u, .u, .u, .u, .u, .u, .u, .u, .u, .u, .u, .u, .u, .u, .u, .u, .u, .u, .u, .u, .u, .u, .u, .u, .u, .u, .u, .u, .u, .u, .u, .u, .u, .u, .u, .u, .u, .u, .u, .u, .u, .u, .u, .u, .u, .u, .u, .u, .u, .u, .u, .u, .u, .u, .u, .u, .u, .u, .u, .u, .u, .u, .u, .u, .u, .u, .u, .u, .u, .u, .u, .u, .u, .u, .u, .u, .u, .u, .u, .u, .u, .u, .u, .u, .u, .u, .u, .u, .u, .u, .u, .u, .u, .u, .u, .u, .u, .u, .u, .u, .u, .u, .u, .u, .u, .u, .u, .u, .u, .u, .u, .u, .u, .u, .u, .u, .u, .u, .u, .u, .u, .u], []⟩
noncomputable def z'd (F : type_of% @spec_l7Parts_J19) (v : p'd.V) (K : KO α) : Option α := F N v.1.1 v.1.2.2.2.2.2.2.2.1 v.1.2.2.2.2.2.2.2.2.1 v.1.2.2.2.2.2.2.2.2.2.1 v.1.2.2.2.2.2.2.2.2.2.2.1 v.1.2.2.2.2.2.2.2.2.2.2.2.1 (fun o0_0 o0_1 o0_2 o0_3 o0_4 o0_5 => K (.normal ⟨[(.iv .str o0_0), U, U, U, U, U, U, (.iv .str o0_1), (.iv (.int .i64) o0_2), (.iv (.int .i64) o0_3), (.iv (.int .i64) o0_4), (.iv .bool o0_5), U, U, U, U, U, U, U, U, U, U, U, U, U, U, U, U, U, U, U, U, U, U, U, U, U, U, U, U, U, U, U, U, U, U, U, U, U, U, U, U, U, U, U, U, U, U, U, U, U, U, U, U, U, U, U, U, U, U, U, U, U, U, U, U, U, U, U, U, U, U, U, U, U, U, U, U, U, U, U, U, U, U, U, U, U, U, U, U, U, U, U, U, U, U, U, U, U, U, U, U, U, U, U, U, U, U, U, U, U, U, U, U, U, U, U, U, U, U, U, U, U, U, U, U, U, U, U, U, U, U, U, U, U, U, U, U], []⟩))
noncomputable def g'd (v : p'd.V) (K : KO α) : Option α := z'd N @spec_l7Parts_J19 v K
noncomputable def p'e : Pt := ⟨[(.i .str), .u, .u, .u, .u, .u, .u, (.i .str), (.i (.int .i64)), (.i (.int .i64)), (.i (.int .i64)), (.i .bool), (.i (.int .i64)), (.i (.int .i64)), .u, .u, .u, .u, .u, .u, .u, .u, .u, .u, .u, .u, .u, .u, .u, .u, .u, .u, .u, .u, .u, .u, .u, .u, .u, .u, .u, .u, .u, .u, .u, .u, .u, .u, .u, .u, .u, .u, .u, .u, .u, .u, .u, .u, .u, .u, .u, .u, .u, .u, .u, .u, .u, .u, .u, .u, .u, .u, .u, .u, .u, .u, .u, .u, .u, .u, .u, .u, .u, .u, .u, .u, .u, .u, .u, .u, .u, .u, .u, .u, .u, .u, .u, .u, .u, .u, .u, .u, .u, .u, .u, .u, .u, .u, .u, .u, .u, .u, .u, .u, .u, .u, .u, .u, .u, .u, .u, .u, .u, .u, .u, .u, .u, .u, .u, .u, .u, .u, .u, .u, .u, .u, .u, .u, .u, .u, .u, .u, .u, .u, .u, .u, .u, .u], []⟩
noncomputable def g'e (n : Nat) (v : p'e.V) (K : KO α) : Option α := spec_l7Parts_L0 N n v.1.1 v.1.2.2.2.2.2.2.2.1 v.1.2.2.2.2.2.2.2.2.1 v.1.2.2.2.2.2.2.2.2.2.1 v.1.2.2.2.2.2.2.2.2.2.2.1 v.1.2.2.2.2.2.2.2.2.2.2.2.1 v.1.2.2.2.2.2.2.2.2.2.2.2.2.1 v.1.2.2.2.2.2.2.2.2.2.2.2.2.2.1 (fun o0_0 o0_1 o0_2 o0_3 o0_4 o0_5 o0_6 => K (.normal ⟨[(.iv .str o0_0), U, U, U, U, U, U, (.iv .str o0_1), (.iv (.int .i64) o0_2), (.iv (.int .i64) o0_3), (.iv (.int .i64) o0_4), (.iv .bool o0_5), (.iv (.int .i64) o0_6), U, U, U, U, U, U, U, U, U, U, U, U, U, U, U, U, U, U, U, U, U, U, U, U, U, U, U, U, U, U, U, U, U, U, U, U, U, U, U, U, U, U, U, U, U, U, U, U, U, U, U, U, U, U, U, U, U, U, U, U, U, U, U, U, U, U, U, U, U, U, U, U, U, U, U, U, U, U, U, U, U, U, U, U, U, U, U, U, U, U, U, U, U, U, U, U, U, U, U, U, U, U, U, U, U, U, U, U, U, U, U, U, U, U, U, U, U, U, U, U, U, U, U, U, U, U, U, U, U, U, U, U, U, U, U], []⟩))
noncomputable def p'f : Pt := ⟨[(.i .str), .u, .u, .u, .u, .u, .u, (.i .str), (.i (.int .i64)), (.i (.int .i64)), (.i (.int .i64)), (.i .bool), (.i (.int .i64)), .u, .u, .u, .u, .u, .u, .u, .u, .u, .u, .u, .u, .u, .u, .u, .u, .u, .u, .u, .u, .u, .u, .u, .u, .u, .u, .u, .u, .u, .u, .u, .u, .u, .u, .u, .u, .u, .u, .u, .u, .u, .u, .u, .u, .u, .u, .u, .u, .u, .u, .u, .u, .u, .u, .u, .u, .u, .u, .u, .u, .u, .u, .u, .u, .u, .u, .u, .u, .u, .u, .u, .u, .u, .u, .u, .u, .u, .u, .u, .u, .u, .u, .u, .u, .u, .u, .u, .u, .u, .u, .u, .u, .u, .u, .u, .u, .u, .u, .u, .u, .u, .u, .u, .u, .u, .u, .u, .u, .u, .u, .u, .u, .u, .u, .u, .u, .u, .u, .u, .u, .u, .u, .u, .u, .u, .u, .u, .u, .u, .u, .u, .u, .u, .u, .u], []⟩
noncomputable def z'f (F : type_of% @spec_l7Parts_J30) (v : p'f.V) (K : KO α) : Option α := F N v.1.1 v.1.2.2.2.2.2.2.2.1 v.1.2.2.2.2.2.2.2.2.1 v.1.2.2.2.2.2.2.2.2.2.1 v.1.2.2.2.2.2.2.2.2.2.2.1 v.1.2.2.2.2.2.2.2.2.2.2.2.1 v.1.2.2.2.2.2.2.2.2.2.2.2.2.1 (fun o0_0 o0_1 o0_2 o0_3 o0_4 o0_5 => K (.normal ⟨[(.iv .str o0_0), U, U, U, U, U, U, (.iv .str o0_1), (.iv (.int .i64) o0_2), (.iv (.int .i64) o0_3), (.iv (.int .i64) o0_4), U, (.iv (.int .i64) o0_5), U, U, U, U, U, U, U, U, U, U, U, U, U, U, U, U, U, U, U, U, U, U, U, U, U, U, U, U, U, U, U, U, U, U, U, U, U, U, U, U, U, U, U, U, U, U, U, U, U, U, U, U, U, U, U, U, U, U, U, U, U, U, U, U, U, U, U, U, U, U, U, U, U, U, U, U, U, U, U, U, U, U, U, U, U, U, U, U, U, U, U, U, U, U, U, U, U, U, U, U, U, U, U, U, U, U, U, U, U, U, U, U, U, U, U, U, U, U, U, U, U, U, U, U, U, U, U, U, U, U, U, U, U, U, U], []⟩))
noncomputable def g'f (v : p'f.V) (K : KO α) : Option α := z'f N @spec_l7Parts_J30 v K
noncomputable def p'g : Pt := ⟨[(.i .str), .u, .u, .u, .u, .u, .u, (.i .str), (.i (.int .i64)), (.i (.int .i64)), (.i (.int .i64)), .u, .u, .u, .u, .u, .u, .u, .u, .u, .u, .u, .u, .u, .u, .u, .u, .u, .u, .u, .u, .u, .u, .u, .u, .u, .u, .u, .u, .u, .u, .u, .u, .u, .u, .u, .u, .u, .u, .u, .u, .u, .u, .u, .u, .u, .u, .u, .u, .u, .u, .u, .u, .u, .u, .u, .u, .u, .u, .u, .u, .u, .u, .u, .u, .u, .u, .u, .u, .u, .u, .u, .u, .u, .u, .u, .u, .u, .u, .u, .u, .u, .u, .u, .u, .u, .u, .u, .u, .u, .u, .u, .u, .u, .u, .u, .u, .u, .u, .u, .u, .u, .u, .u, .u, .u, .u, .u, .u, .u, .u, .u, .u, .u, .u, .u, .u, .u, .u, .u, .u, .u, .u, .u, .u, .u, .u, .u, .u, .u, .u, .u, .u, .u, .u, .u, .u, .u], []⟩
noncomputable def z'g (F : type_of% @spec_l7Parts_J16) (v : p'g.V) (K : KO α) : Option α := F N v.1.1 v.1.2.2.2.2.2.2.2.1 v.1.2.2.2.2.2.2.2.2.1 v.1.2.2.2.2.2.2.2.2.2.1 v.1.2.2.2.2.2.2.2.2.2.2.1 (fun o0_0 o0_1 o0_2 o0_3 => K (.ret (.tuple [(.iv .str o0_0), (.iv (.int .i64) o0_1), (.iv (.int .i64) o0_2), (.iv .bool o0_3)]) [])) (fun o1_0 o1_1 o1_2 o1_3 o1_4 => K (.normal ⟨[(.iv .str o1_0), U, U, U, U, U, U, (.iv .str o1_1), (.iv (.int .i64) o1_2), (.iv (.int .i64) o1_3), (.iv (.int .i64) o1_4), U, U, U, U, U, U, U, U, U, U, U, U, U, U, U, U, U, U, U, U, U, U, U, U, U, U, U, U, U, U, U, U, U, U, U, U, U, U, U, U, U, U, U, U, U, U, U, U, U, U, U, U, U, U, U, U, U, U, U, U, U, U, U, U, U, U, U, U, U, U, U, U, U, U, U, U, U, U, U, U, U, U, U, U, U, U, U, U, U, U, U, U, U, U, U, U, U, U, U, U, U, U, U, U, U, U, U, U, U, U, U, U, U, U, U, U, U, U, U, U, U, U, U, U, U, U, U, U, U, U, U, U, U, U, U, U, U], []⟩))
noncomputable def g'g (v : p'g.V) (K : KO α) : Option α := z'g N @spec_l7Parts_J16 v K
noncomputable def q'c (N : Nat) : Piece := (mkPiece 344065 p'c (g'c N))
noncomputable def q'd (N : Nat) : Piece := (mkPiece 5586945 p'd (g'd N))
noncomputable def q'e (N : Nat) : Piece := (mkPiece 89473025 p'e (g'e N N))
noncomputable def q'f (N : Nat) : Piece := (mkPiece 22364161 p'f (g'f N))
noncomputable def q'g (N : Nat) : Piece := (mkPiece 1392641 p'g (g'g N))
noncomputable def i'h (N : Nat) : Fi := { loans := 0, owns := true, results := [.tmp 2, .tmp 3, .tmp 4, .tmp 5], rtys := [9, 3, 3, 4], blks := [(0, q'e N)], regs := [(9, q'c N), (19, q'd N), (30, q'f N), (16, q'g N)], masks := [(0, 22364161)] }
noncomputable def b'h : Code := match Tryz.f43.body with | some c => c | none => .skip
theorem e'c (v : p'c.V) (K : KO α) : runSeq env (ct1 N) (i'h N) 344065 (.seq (codeAt b'h [1, 1, 1, 1, 1, 1, 1, 0, 0]) (codeAt b'h [1, 1, 1, 1, 1, 1, 1, 0, 1])) (p'c.mk' v) K = g'c N v K := Eq.trans (b := z'c N @spec_l7Parts_J9.b v K) (by kernel_rfl) (by unfold g'c; rw [spec_l7Parts_J9.eq])
theorem o'c (N : Nat) : PieceOK gd P (i'h N) (.seq (codeAt b'h [1, 1, 1, 1, 1, 1, 1, 0, 0]) (codeAt b'h [1, 1, 1, 1, 1, 1, 1, 0, 1])) (mkPiece 344065 p'c (g'c N)) :=
  piece_seq hE hP (hct1 N) (AllOK.of (F := i'h N) (l := []) (by kernel_rfl) .nil) (AllOK.of (F := i'h N) (l := []) (by kernel_rfl) .nil) (e'c N)
theorem oq'c (N : Nat) : PieceOK gd P (i'h N) (.seq (codeAt b'h [1, 1, 1, 1, 1, 1, 1, 0, 0]) (codeAt b'h [1, 1, 1, 1, 1, 1, 1, 0, 1])) (q'c N) := (o'c N)
theorem e'd (v : p'd.V) (K : KO α) : runSeq env (ct1 N) (i'h N) 5586945 (.seq (codeAt b'h [1, 1, 1, 1, 1, 1, 1, 1, 1, 0, 1, 0, 1, 1, 0, 0]) (codeAt b'h [1, 1, 1, 1, 1, 1, 1, 1, 1, 0, 1, 0, 1, 1, 0, 1])) (p'd.mk' v) K = g'd N v K := Eq.trans (b := z'd N @spec_l7Parts_J19.b v K) (by kernel_rfl) (by unfold g'd; rw [spec_l7Parts_J19.eq])
theorem o'd (N : Nat) : PieceOK gd P (i'h N) (.seq (codeAt b'h [1, 1, 1, 1, 1, 1, 1, 1, 1, 0, 1, 0, 1, 1, 0, 0]) (codeAt b'h [1, 1, 1, 1, 1, 1, 1, 1, 1, 0, 1, 0, 1, 1, 0, 1])) (mkPiece 5586945 p'd (g'd N)) :=
  piece_seq hE hP (hct1 N) (AllOK.of (F := i'h N) (l := []) (by kernel_rfl) .nil) (AllOK.of (F := i'h N) (l := []) (by kernel_rfl) .nil) (e'd N)
theorem oq'd (N : Nat) : PieceOK gd P (i'h N) (.seq (codeAt b'h [1, 1, 1, 1, 1, 1, 1, 1, 1, 0, 1, 0, 1, 1, 0, 0]) (codeAt b'h [1, 1, 1, 1, 1, 1, 1, 1, 1, 0, 1, 0, 1, 1, 0, 1])) (q'd N) := (o'd N)
theorem e'e (n : Nat) (v : p'e.V) (K : KO α) : runRound env (ct1 N) (i'h N) 89473025 (mkPiece 89473025 p'e (g'e N n)).run (.block 0 (.loop (codeAt b'h [1, 1, 1, 1, 1, 1, 1, 1, 1, 0, 1, 0, 1, 1, 1, 1, 1, 0, 1, 0, 0]))) (p'e.mk' v) K = g'e N (n + 1) v K := Eq.trans (b := spec_l7Parts_L0r N (fun y0 y1 y2 y3 y4 y5 y6 y7 => spec_l7Parts_L0 N n y0 y1 y2 y3 y4 y5 y6 y7 (fun o0_0 o0_1 o0_2 o0_3 o0_4 o0_5 o0_6 => K (.normal ⟨[(.iv .str o0_0), U, U, U, U, U, U, (.iv .str o0_1), (.iv (.int .i64) o0_2), (.iv (.int .i64) o0_3), (.iv (.int .i64) o0_4), (.iv .bool o0_5), (.iv (.int .i64) o0_6), U, U, U, U, U, U, U, U, U, U, U, U, U, U, U, U, U, U, U, U, U, U, U, U, U, U, U, U, U, U, U, U, U, U, U, U, U, U, U, U, U, U, U, U, U, U, U, U, U, U, U, U, U, U, U, U, U, U, U, U, U, U, U, U, U, U, U, U, U, U, U, U, U, U, U, U, U, U, U, U, U, U, U, U, U, U, U, U, U, U, U, U, U, U, U, U, U, U, U, U, U, U, U, U, U, U, U, U, U, U, U, U, U, U, U, U, U, U, U, U, U, U, U, U, U, U, U, U, U, U, U, U, U, U, U], []⟩))) (fun o0_0 o0_1 o0_2 o0_3 o0_4 o0_5 o0_6 => K (.normal ⟨[(.iv .str o0_0), U, U, U, U, U, U, (.iv .str o0_1), (.iv (.int .i64) o0_2), (.iv (.int .i64) o0_3), (.iv (.int .i64) o0_4), (.iv .bool o0_5), (.iv (.int .i64) o0_6), U, U, U, U, U, U, U, U, U, U, U, U, U, U, U, U, U, U, U, U, U, U, U, U, U, U, U, U, U, U, U, U, U, U, U, U, U, U, U, U, U, U, U, U, U, U, U, U, U, U, U, U, U, U, U, U, U, U, U, U, U, U, U, U, U, U, U, U, U, U, U, U, U, U, U, U, U, U, U, U, U, U, U, U, U, U, U, U, U, U, U, U, U, U, U, U, U, U, U, U, U, U, U, U, U, U, U, U, U, U, U, U, U, U, U, U, U, U, U, U, U, U, U, U, U, U, U, U, U, U, U, U, U, U, U], []⟩)) v.1.1 v.1.2.2.2.2.2.2.2.1 v.1.2.2.2.2.2.2.2.2.1 v.1.2.2.2.2.2.2.2.2.2.1 v.1.2.2.2.2.2.2.2.2.2.2.1 v.1.2.2.2.2.2.2.2.2.2.2.2.1 v.1.2.2.2.2.2.2.2.2.2.2.2.2.1 v.1.2.2.2.2.2.2.2.2.2.2.2.2.2.1) (by kernel_rfl) (by unfold g'e; rw [spec_l7Parts_L0.succ])
theorem o'e (N : Nat) : PieceOK gd P (i'h N) (.block 0 (.loop (codeAt b'h [1, 1, 1, 1, 1, 1, 1, 1, 1, 0, 1, 0, 1, 1, 1, 1, 1, 0, 1, 0, 0]))) (mkPiece 89473025 p'e (g'e N N)) :=
  piece_loop hE hP (hct1 N) (AllOK.of (F := i'h N) (l := []) (by kernel_rfl) .nil) (fun n {_} => g'e N n) (fun _ _ => by unfold g'e; rw [spec_l7Parts_L0.zero]) (fun n {_} v K => e'e N n v K) N
theorem oq'e (N : Nat) : PieceOK gd P (i'h N) (.block 0 (.loop (codeAt b'h [1, 1, 1, 1, 1, 1, 1, 1, 1, 0, 1, 0, 1, 1, 1, 1, 1, 0, 1, 0, 0]))) (q'e N) := (o'e N)
theorem e'f (v : p'f.V) (K : KO α) : runSeq env (ct1 N) (i'h N) 18169857 (.seq (codeAt b'h [1, 1, 1, 1, 1, 1, 1, 1, 1, 0, 1, 0, 1, 1, 1, 1, 1, 1, 1, 0, 0]) (codeAt b'h [1, 1, 1, 1, 1, 1, 1, 1, 1, 0, 1, 0, 1, 1, 1, 1, 1, 1, 1, 0, 1])) (p'f.mk' v) K = g'f N v K := Eq.trans (b := z'f N @spec_l7Parts_J30.b v K) (by kernel_rfl) (by unfold g'f; rw [spec_l7Parts_J30.eq])
theorem o'f (N : Nat) : PieceOK gd P (i'h N) (.seq (codeAt b'h [1, 1, 1, 1, 1, 1, 1, 1, 1, 0, 1, 0, 1, 1, 1, 1, 1, 1, 1, 0, 0]) (codeAt b'h [1, 1, 1, 1, 1, 1, 1, 1, 1, 0, 1, 0, 1, 1, 1, 1, 1, 1, 1, 0, 1])) (mkPiece 22364161 p'f (g'f N)) :=
  piece_seq hE hP (hct1 N) (AllOK.of (F := i'h N) (l := []) (by kernel_rfl) .nil) (AllOK.of (F := i'h N) (l := []) (by kernel_rfl) .nil) (e'f N)
theorem oq'f (N : Nat) : PieceOK gd P (i'h N) (.seq (codeAt b'h [1, 1, 1, 1, 1, 1, 1, 1, 1, 0, 1, 0, 1, 1, 1, 1, 1, 1, 1, 0, 0]) (codeAt b'h [1, 1, 1, 1, 1, 1, 1, 1, 1, 0, 1, 0, 1, 1, 1, 1, 1, 1, 1, 0, 1])) (q'f N) := (o'f N)
theorem e'g (v : p'g.V) (K : KO α) : runSeq env (ct1 N) (i'h N) 1392641 (.seq (codeAt b'h [1, 1, 1, 1, 1, 1, 1, 1, 1, 0, 0]) (codeAt b'h [1, 1, 1, 1, 1, 1, 1, 1, 1, 0, 1])) (p'g.mk' v) K = g'g N v K := Eq.trans (b := z'g N @spec_l7Parts_J16.b v K) (by kernel_rfl) (by unfold g'g; rw [spec_l7Parts_J16.eq])
theorem o'g (N : Nat) : PieceOK gd P (i'h N) (.seq (codeAt b'h [1, 1, 1, 1, 1, 1, 1, 1, 1, 0, 0]) (codeAt b'h [1, 1, 1, 1, 1, 1, 1, 1, 1, 0, 1])) (mkPiece 1392641 p'g (g'g N)) :=
  piece_seq hE hP (hct1 N) (AllOK.of (F := i'h N) (l := []) (by kernel_rfl) .nil) (AllOK.of (F := i'h N) (l := [((.seq (codeAt b'h [1, 1, 1, 1, 1, 1, 1, 1, 1, 0, 1, 0, 1, 1, 0, 0]) (codeAt b'h [1, 1, 1, 1, 1, 1, 1, 1, 1, 0, 1, 0, 1, 1, 0, 1])), q'd N), ((.block 0 (.loop (codeAt b'h [1, 1, 1, 1, 1, 1, 1, 1, 1, 0, 1, 0, 1, 1, 1, 1, 1, 0, 1, 0, 0]))), q'e N), ((.seq (codeAt b'h [1, 1, 1, 1, 1, 1, 1, 1, 1, 0, 1, 0, 1, 1, 1, 1, 1, 1, 1, 0, 0]) (codeAt b'h [1, 1, 1, 1, 1, 1, 1, 1, 1, 0, 1, 0, 1, 1, 1, 1, 1, 1, 1, 0, 1])), q'f N)]) (by kernel_rfl) (.cons (oq'd N) (.cons (oq'e N) (.cons (oq'f N) .nil)))) (e'g N)
theorem oq'g (N : Nat) : PieceOK gd P (i'h N) (.seq (codeAt b'h [1, 1, 1, 1, 1, 1, 1, 1, 1, 0, 0]) (codeAt b'h [1, 1, 1, 1, 1, 1, 1, 1, 1, 0, 1])) (q'g N) := (o'g N)
noncomputable def p'h : Pt := ⟨[(.i .str)], []⟩
noncomputable def z'h (F : type_of% @spec_l7Parts) (v : p'h.V) (K : KF α) : Option α := F N v.1.1 (fun o0_0 o0_1 o0_2 o0_3 => K (.tuple [(.iv .str o0_0), (.iv (.int .i64) o0_1), (.iv (.int .i64) o0_2), (.iv .bool o0_3)]) [])
noncomputable def g'h (v : p'h.V) (K : KF α) : Option α := z'h N @spec_l7Parts v K
theorem e'h (v : p'h.V) (K : KF α) : runFn env (ct1 N) (i'h N) Tryz.f43 (SP.mkL p'h.slots v.1) (BP.mkL p'h.store v.2) K = g'h N v K := Eq.trans (b := z'h N @spec_l7Parts.b v K) (by kernel_rfl) (by unfold g'h; rw [spec_l7Parts.eq])
theorem o'h (N : Nat) : CalleeOK gd P 43 (mkCallee false p'h (g'h N)) :=
  callee_ok fun v K h => fn_snd hE hP (hct1 N) Tryz.func43 (by kernel_rfl) (body := b'h) (by kernel_rfl) (by kernel_rfl) (AllOK.of (F := i'h N) (l := [((.seq (codeAt b'h [1, 1, 1, 1, 1, 1, 1, 0, 0]) (codeAt b'h [1, 1, 1, 1, 1, 1, 1, 0, 1])), q'c N), ((.seq (codeAt b'h [1, 1, 1, 1, 1, 1, 1, 1, 1, 0, 0]) (codeAt b'h [1, 1, 1, 1, 1, 1, 1, 1, 1, 0, 1])), q'g N)]) (by kernel_rfl) (.cons (oq'c N) (.cons (oq'g N) .nil))) (loans := BP.mkL p'h.store v.2) rfl ((e'h N v K).trans h)
noncomputable def ct2 (N : Nat) : CT := (43, (mkCallee false p'h (g'h N))) :: ct1 N
theorem hct2 (N : Nat) : CTOK gd P (ct2 N) := .cons (o'h N) (hct1 N)

noncomputable def p'i : Pt := ⟨[(.i (.sl (.int .i64))), .u, .u, (.i (.int .i64)), .u, .u, .u, .u, .u, .u, .u, .u, .u, .u, .u, .u, .u, .u, .u, .u, .u, .u, .u, .u, .u, .u, .u, .u, .u, .u, .u, .u, .u], []⟩
noncomputable def g'i (n : Nat) (v : p'i.V) (K : KO α) : Option α := spec_l5Trim_L0 N n v.1.1 v.1.2.2.2.1 (fun o0_0 o0_1 => K (.normal ⟨[(.iv (.sl (.int .i64)) o0_0), U, U, (.iv (.int .i64) o0_1), U, U, U, U, U, U, U, U, U, U, U, U, U, U, U, U, U, U, U, U, U, U, U, U, U, U, U, U, U], []⟩))
noncomputable def p'j : Pt := ⟨[(.i (.sl (.int .i64))), .u, .u, (.i (.int .i64)), (.o 0), (.i (.int .i64)), .u, .u, .u, .u, .u, .u, .u, .u, .u, .u, .u, .u, .u, .u, .u, .u, .u, .u, .u, .u, .u, .u, .u, .u, .u, .u, .u], [(.arr 3 (.int .i64) false)]⟩
noncomputable def g'j (n : Nat) (v : p'j.V) (K : KO α) : Option α := spec_l5Trim_L2 N n v.1.1 v.1.2.2.2.1 v.1.2.2.2.2.2.1 v.2.1 (fun o0_0 => K (.normal ⟨(us 4 [(.own 0), U, U, U, U, U, U, U, U, U, U, U, U, U, U, U, U, U, U, U, U, U, U, U, U, U, U, U, U]), [(.arr 3 (.int .i64) o0_0 false)]⟩))
noncomputable def q'i (N : Nat) : Piece := (mkPiece 65 p'i (g'i N N))
noncomputable def q'j (N : Nat) : Piece := (mkPiece 1345 p'j (g'j N N))
noncomputable def i'k (N : Nat) : Fi := { loans := 0, owns := true, results := [.tmp 2], rtys := [23], blks := [(0, q'i N), (2, q'j N)], regs := [], masks := [(0, 65), (2, 256)] }
noncomputable def b'k : Code := match Tryz.f44.body with | some c => c | none => .skip
theorem e'i (n : Nat) (v : p'i.V) (K : KO α) : runRound env (ct2 N) (i'k N) 65 (mkPiece 65 p'i (g'i N n)).run (.block 0 (.loop (codeAt b'k [1, 1, 0, 0, 0]))) (p'i.mk' v) K = g'i N (n + 1) v K := Eq.trans (b := spec_l5Trim_L0r N (fun y0 y1 => spec_l5Trim_L0 N n y0 y1 (fun o0_0 o0_1 => K (.normal ⟨[(.iv (.sl (.int .i64)) o0_0), U, U, (.iv (.int .i64) o0_1), U, U, U, U, U, U, U, U, U, U, U, U, U, U, U, U, U, U, U, U, U, U, U, U, U, U, U, U, U], []⟩))) (fun o0_0 o0_1 => K (.normal ⟨[(.iv (.sl (.int .i64)) o0_0), U, U, (.iv (.int .i64) o0_1), U, U, U, U, U, U, U, U, U, U, U, U, U, U, U, U, U, U, U, U, U, U, U, U, U, U, U, U, U], []⟩)) v.1.1 v.1.2.2.2.1) (by kernel_rfl) (by unfold g'i; rw [spec_l5Trim_L0.succ])
theorem o'i (N : Nat) : PieceOK gd P (i'k N) (.block 0 (.loop (codeAt b'k [1, 1, 0, 0, 0]))) (mkPiece 65 p'i (g'i N N)) :=
  piece_loop hE hP (hct2 N) (AllOK.of (F := i'k N) (l := []) (by kernel_rfl) .nil) (fun n {_} => g'i N n) (fun _ _ => by unfold g'i; rw [spec_l5Trim_L0.zero]) (fun n {_} v K => e'i N n v K) N
theorem oq'i (N : Nat) : PieceOK gd P (i'k N) (.block 0 (.loop (codeAt b'k [1, 1, 0, 0, 0]))) (q'i N) := (o'i N)
theorem e'j (n : Nat) (v : p'j.V) (K : KO α) : runRound env (ct2 N) (i'k N) 1345 (mkPiece 1345 p'j (g'j N n)).run (.block 2 (.loop (codeAt b'k [1, 1, 1, 1, 0, 1, 0, 0]))) (p'j.mk' v) K = g'j N (n + 1) v K := Eq.trans (b := spec_l5Trim_L2r N (fun y0 y1 y2 y3 => spec_l5Trim_L2 N n y0 y1 y2 y3 (fun o0_0 => K (.normal ⟨(us 4 [(.own 0), U, U, U, U, U, U, U, U, U, U, U, U, U, U, U, U, U, U, U, U, U, U, U, U, U, U, U, U]), [(.arr 3 (.int .i64) o0_0 false)]⟩))) (fun o0_0 => K (.normal ⟨(us 4 [(.own 0), U, U, U, U, U, U, U, U, U, U, U, U, U, U, U, U, U, U, U, U, U, U, U, U, U, U, U, U]), [(.arr 3 (.int .i64) o0_0 false)]⟩)) v.1.1 v.1.2.2.2.1 v.1.2.2.2.2.2.1 v.2.1) (by kernel_rfl) (by unfold g'j; rw [spec_l5Trim_L2.succ])
theorem o'j (N : Nat) : PieceOK gd P (i'k N) (.block 2 (.loop (codeAt b'k [1, 1, 1, 1, 0, 1, 0, 0]))) (mkPiece 1345 p'j (g'j N N)) :=
  piece_loop hE hP (hct2 N) (AllOK.of (F := i'k N) (l := []) (by kernel_rfl) .nil) (fun n {_} => g'j N n) (fun _ _ => by unfold g'j; rw [spec_l5Trim_L2.zero]) (fun n {_} v K => e'j N n v K) N
theorem oq'j (N : Nat) : PieceOK gd P (i'k N) (.block 2 (.loop (codeAt b'k [1, 1, 1, 1, 0, 1, 0, 0]))) (q'j N) := (o'j N)
noncomputable def p'k : Pt := ⟨[(.i (.sl (.int .i64)))], []⟩
noncomputable def z'k (F : type_of% @spec_l5Trim) (v : p'k.V) (K : KF α) : Option α := F N v.1.1 (fun o0_0 => K (.own 0) [(.arr 3 (.int .i64) o0_0 false)])
noncomputable def g'k (v : p'k.V) (K : KF α) : Option α := z'k N @spec_l5Trim v K
theorem e'k (v : p'k.V) (K : KF α) : runFn env (ct2 N) (i'k N) Tryz.f44 (SP.mkL p'k.slots v.1) (BP.mkL p'k.store v.2) K = g'k N v K := Eq.trans (b := z'k N @spec_l5Trim.b v K) (by kernel_rfl) (by unfold g'k; rw [spec_l5Trim.eq])
theorem o'k (N : Nat) : CalleeOK gd P 44 (mkCallee false p'k (g'k N)) :=
  callee_ok fun v K h => fn_snd hE hP (hct2 N) Tryz.func44 (by kernel_rfl) (body := b'k) (by kernel_rfl) (by kernel_rfl) (AllOK.of (F := i'k N) (l := [((.block 0 (.loop (codeAt b'k [1, 1, 0, 0, 0]))), q'i N), ((.block 2 (.loop (codeAt b'k [1, 1, 1, 1, 0, 1, 0, 0]))), q'j N)]) (by kernel_rfl) (.cons (oq'i N) (.cons (oq'j N) .nil))) (loans := BP.mkL p'k.store v.2) rfl ((e'k N v K).trans h)
noncomputable def ct3 (N : Nat) : CT := (44, (mkCallee false p'k (g'k N))) :: ct2 N
theorem hct3 (N : Nat) : CTOK gd P (ct3 N) := .cons (o'k N) (hct2 N)

noncomputable def p'l : Pt := ⟨[(.i (.sl (.int .i64))), (.i (.sl (.int .i64))), .u, .u, .u, (.o 0), (.i (.int .i64)), (.i (.int .i64)), (.i (.int .i64)), .u, .u, .u, .u, .u, .u, .u, .u, .u, .u, .u, .u, .u, .u, .u, .u, .u, .u, .u, .u, .u, .u, .u, .u, .u, .u, .u, .u, .u, .u, .u, .u, .u, .u, .u, .u, .u, .u, .u, .u, .u, .u, .u, .u, .u, .u, .u, .u, .u, .u, .u, .u, .u, .u, .u], [(.arr 3 (.int .i64) false)]⟩
noncomputable def g'l (n : Nat) (v : p'l.V) (K : KO α) : Option α := spec_l5Mul_L2 N n v.1.1 v.1.2.1 v.1.2.2.2.2.2.2.1 v.1.2.2.2.2.2.2.2.1 v.1.2.2.2.2.2.2.2.2.1 v.2.1 (fun o0_0 o0_1 o0_2 o0_3 o0_4 => K (.normal ⟨[(.iv (.sl (.int .i64)) o0_0), (.iv (.sl (.int .i64)) o0_1), U, U, U, (.own 0), (.iv (.int .i64) o0_2), (.iv (.int .i64) o0_3), U, U, U, U, U, U, U, U, U, U, U, U, U, U, U, U, U, U, U, U, U, U, U, U, U, U, U, U, U, U, U, U, U, U, U, U, U, U, U, U, U, U, U, U, U, U, U, U, U, U, U, U, U, U, U, U], [(.arr 3 (.int .i64) o0_4 false)]⟩))
noncomputable def p'm : Pt := ⟨[(.i (.sl (.int .i64))), (.i (.sl (.int .i64))), .u, .u, .u, (.o 0), (.i (.int .i64)), .u, .u, .u, .u, .u, .u, .u, .u, .u, .u, .u, .u, .u, .u, .u, .u, .u, .u, .u, .u, .u, .u, .u, .u, .u, .u, .u, .u, .u, .u, .u, .u, .u, .u, .u, .u, .u, .u, .u, .u, .u, .u, .u, .u, .u, .u, .u, .u, .u, .u, .u, .u, .u, .u, .u, .u, .u], [(.arr 3 (.int .i64) false)]⟩
noncomputable def g'm (n : Nat) (v : p'm.V) (K : KO α) : Option α := spec_l5Mul_L0 N n v.1.1 v.1.2.1 v.1.2.2.2.2.2.2.1 v.2.1 (fun o0_0 => K (.normal ⟨(us 5 [(.own 0), U, U, U, U, U, U, U, U, U, U, U, U, U, U, U, U, U, U, U, U, U, U, U, U, U, U, U, U, U, U, U, U, U, U, U, U, U, U, U, U, U, U, U, U, U, U, U, U, U, U, U, U, U, U, U, U, U, U]), [(.arr 3 (.int .i64) o0_0 false)]⟩))
noncomputable def q'l (N : Nat) : Piece := (mkPiece 87045 p'l (g'l N N))
noncomputable def q'm (N : Nat) : Piece := (mkPiece 5125 p'm (g'm N N))
noncomputable def i'n (N : Nat) : Fi := { loans := 0, owns := true, results := [.tmp 4], rtys := [23], blks := [(2, q'l N), (0, q'm N)], regs := [], masks := [(0, 1024), (2, 21509)] }
noncomputable def b'n : Code := match Tryz.f49.body with | some c => c | none => .skip
theorem e'l (n : Nat) (v : p'l.V) (K : KO α) : runRound env (ct3 N) (i'n N) 87045 (mkPiece 87045 p'l (g'l N n)).run (.block 2 (.loop (codeAt b'n [1, 1, 0, 1, 0, 0, 1, 0, 0, 1, 0, 1, 0, 0]))) (p'l.mk' v) K = g'l N (n + 1) v K := Eq.trans (b := spec_l5Mul_L2r N (fun y0 y1 y2 y3 y4 y5 => spec_l5Mul_L2 N n y0 y1 y2 y3 y4 y5 (fun o0_0 o0_1 o0_2 o0_3 o0_4 => K (.normal ⟨[(.iv (.sl (.int .i64)) o0_0), (.iv (.sl (.int .i64)) o0_1), U, U, U, (.own 0), (.iv (.int .i64) o0_2), (.iv (.int .i64) o0_3), U, U, U, U, U, U, U, U, U, U, U, U, U, U, U, U, U, U, U, U, U, U, U, U, U, U, U, U, U, U, U, U, U, U, U, U, U, U, U, U, U, U, U, U, U, U, U, U, U, U, U, U, U, U, U, U], [(.arr 3 (.int .i64) o0_4 false)]⟩))) (fun o0_0 o0_1 o0_2 o0_3 o0_4 => K (.normal ⟨[(.iv (.sl (.int .i64)) o0_0), (.iv (.sl (.int .i64)) o0_1), U, U, U, (.own 0), (.iv (.int .i64) o0_2), (.iv (.int .i64) o0_3), U, U, U, U, U, U, U, U, U, U, U, U, U, U, U, U, U, U, U, U, U, U, U, U, U, U, U, U, U, U, U, U, U, U, U, U, U, U, U, U, U, U, U, U, U, U, U, U, U, U, U, U, U, U, U, U], [(.arr 3 (.int .i64) o0_4 false)]⟩)) v.1.1 v.1.2.1 v.1.2.2.2.2.2.2.1 v.1.2.2.2.2.2.2.2.1 v.1.2.2.2.2.2.2.2.2.1 v.2.1) (by kernel_rfl) (by unfold g'l; rw [spec_l5Mul_L2.succ])
theorem o'l (N : Nat) : PieceOK gd P (i'n N) (.block 2 (.loop (codeAt b'n [1, 1, 0, 1, 0, 0, 1, 0, 0, 1, 0, 1, 0, 0]))) (mkPiece 87045 p'l (g'l N N)) :=
  piece_loop hE hP (hct3 N) (AllOK.of (F := i'n N) (l := []) (by kernel_rfl) .nil) (fun n {_} => g'l N n) (fun _ _ => by unfold g'l; rw [spec_l5Mul_L2.zero]) (fun n {_} v K => e'l N n v K) N
theorem oq'l (N : Nat) : PieceOK gd P (i'n N) (.block 2 (.loop (codeAt b'n [1, 1, 0, 1, 0, 0, 1, 0, 0, 1, 0, 1, 0, 0]))) (q'l N) := (o'l N)
theorem e'm (n : Nat) (v : p'm.V) (K : KO α) : runRound env (ct3 N) (i'n N) 5125 (mkPiece 5125 p'm (g'm N n)).run (.block 0 (.loop (codeAt b'n [1, 1, 0, 1, 0, 0]))) (p'm.mk' v) K = g'm N (n + 1) v K := Eq.trans (b := spec_l5Mul_L0r N (fun y0 y1 y2 y3 => spec_l5Mul_L0 N n y0 y1 y2 y3 (fun o0_0 => K (.normal ⟨(us 5 [(.own 0), U, U, U, U, U, U, U, U, U, U, U, U, U, U, U, U, U, U, U, U, U, U, U, U, U, U, U, U, U, U, U, U, U, U, U, U, U, U, U, U, U, U, U, U, U, U, U, U, U, U, U, U, U, U, U, U, U, U]), [(.arr 3 (.int .i64) o0_0 false)]⟩))) (fun o0_0 => K (.normal ⟨(us 5 [(.own 0), U, U, U, U, U, U, U, U, U, U, U, U, U, U, U, U, U, U, U, U, U, U, U, U, U, U, U, U, U, U, U, U, U, U, U, U, U, U, U, U, U, U, U, U, U, U, U, U, U, U, U, U, U, U, U, U, U, U]), [(.arr 3 (.int .i64) o0_0 false)]⟩)) v.1.1 v.1.2.1 v.1.2.2.2.2.2.2.1 v.2.1) (by kernel_rfl) (by unfold g'm; rw [spec_l5Mul_L0.succ])
theorem o'm (N : Nat) : PieceOK gd P (i'n N) (.block 0 (.loop (codeAt b'n [1, 1, 0, 1, 0, 0]))) (mkPiece 5125 p'm (g'm N N)) :=
  piece_loop hE hP (hct3 N) (AllOK.of (F := i'n N) (l := [((.block 2 (.loop (codeAt b'n [1, 1, 0, 1, 0, 0, 1, 0, 0, 1, 0, 1, 0, 0]))), q'l N)]) (by kernel_rfl) (.cons (oq'l N) .nil)) (fun n {_} => g'm N n) (fun _ _ => by unfold g'm; rw [spec_l5Mul_L0.zero]) (fun n {_} v K => e'm N n v K) N
theorem oq'm (N : Nat) : PieceOK gd P (i'n N) (.block 0 (.loop (codeAt b'n [1, 1, 0, 1, 0, 0]))) (q'm N) := (o'm N)
noncomputable def p'n : Pt := ⟨[(.i (.sl (.int .i64))), (.i (.sl (.int .i64)))], []⟩
noncomputable def z'n (F : type_of% @spec_l5Mul) (v : p'n.V) (K : KF α) : Option α := F N v.1.1 v.1.2.1 (fun o0_0 => K (.own 0) [(.arr 3 (.int .i64) o0_0 false)])
noncomputable def g'n (v : p'n.V) (K : KF α) : Option α := z'n N @spec_l5Mul v K
theorem e'n (v : p'n.V) (K : KF α) : runFn env (ct3 N) (i'n N) Tryz.f49 (SP.mkL p'n.slots v.1) (BP.mkL p'n.store v.2) K = g'n N v K := Eq.trans (b := z'n N @spec_l5Mul.b v K) (by kernel_rfl) (by unfold g'n; rw [spec_l5Mul.eq])
theorem o'n (N : Nat) : CalleeOK gd P 49 (mkCallee false p'n (g'n N)) :=
  callee_ok fun v K h => fn_snd hE hP (hct3 N) Tryz.func49 (by kernel_rfl) (body := b'n) (by kernel_rfl) (by kernel_rfl) (AllOK.of (F := i'n N) (l := [((.block 0 (.loop (codeAt b'n [1, 1, 0, 1, 0, 0]))), q'm N)]) (by kernel_rfl) (.cons (oq'm N) .nil)) (loans := BP.mkL p'n.store v.2) rfl ((e'n N v K).trans h)
noncomputable def ct4 (N : Nat) : CT := (49, (mkCallee false p'n (g'n N))) :: ct3 N
theorem hct4 (N : Nat) : CTOK gd P (ct4 N) := .cons (o'n N) (hct3 N)

noncomputable def i'o (N : Nat) : Fi := { loans := 0, owns := true, results := [.tmp 4], rtys := [23], blks := [], regs := [], masks := [] }
noncomputable def b'o : Code := match Tryz.f46.body with | some c => c | none => .skip
noncomputable def p'o : Pt := ⟨[(.i (.sl (.int .i64))), (.i (.int .i64))], []⟩
noncomputable def z'o (F : type_of% @spec_l5Times) (v : p'o.V) (K : KF α) : Option α := F N v.1.1 v.1.2.1 (fun o0_0 => K (.own 0) [(.arr 3 (.int .i64) o0_0 false)])
noncomputable def g'o (v : p'o.V) (K : KF α) : Option α := z'o N @spec_l5Times v K
theorem e'o (v : p'o.V) (K : KF α) : runFn env (ct4 N) (i'o N) Tryz.f46 (SP.mkL p'o.slots v.1) (BP.mkL p'o.store v.2) K = g'o N v K := Eq.trans (b := z'o N @spec_l5Times.b v K) (by kernel_rfl) (by unfold g'o; rw [spec_l5Times.eq])
theorem o'o (N : Nat) : CalleeOK gd P 46 (mkCallee false p'o (g'o N)) :=
  callee_ok fun v K h => fn_snd hE hP (hct4 N) Tryz.func46 (by kernel_rfl) (body := b'o) (by kernel_rfl) (by kernel_rfl) (AllOK.of (F := i'o N) (l := []) (by kernel_rfl) .nil) (loans := BP.mkL p'o.store v.2) rfl ((e'o N v K).trans h)
noncomputable def ct5 (N : Nat) : CT := (46, (mkCallee false p'o (g'o N))) :: ct4 N
theorem hct5 (N : Nat) : CTOK gd P (ct5 N) := .cons (o'o N) (hct4 N)

noncomputable def p'p : Pt := ⟨[(.i (.int .u64)), .u, .u, (.o 0), .u, .u, .u, .u, .u, .u, .u, .u, .u, .u, .u], [(.arr 3 (.int .i64) false)]⟩
noncomputable def g'p (n : Nat) (v : p'p.V) (K : KO α) : Option α := spec_NatOf_L0 N n v.1.1 v.2.1 (fun o0_0 => K (.normal ⟨[U, U, U, (.own 0), U, U, U, U, U, U, U, U, U, U, U], [(.arr 3 (.int .i64) o0_0 false)]⟩))
noncomputable def q'p (N : Nat) : Piece := (mkPiece 65 p'p (g'p N N))
noncomputable def i'q (N : Nat) : Fi := { loans := 0, owns := true, results := [.tmp 2], rtys := [23], blks := [(0, q'p N)], regs := [], masks := [(0, 64)] }
noncomputable def b'q : Code := match Tryz.f47.body with | some c => c | none => .skip
theorem e'p (n : Nat) (v : p'p.V) (K : KO α) : runRound env (ct5 N) (i'q N) 65 (mkPiece 65 p'p (g'p N n)).run (.block 0 (.loop (codeAt b'q [1, 1, 0, 0, 0]))) (p'p.mk' v) K = g'p N (n + 1) v K := Eq.trans (b := spec_NatOf_L0r N (fun y0 y1 => spec_NatOf_L0 N n y0 y1 (fun o0_0 => K (.normal ⟨[U, U, U, (.own 0), U, U, U, U, U, U, U, U, U, U, U], [(.arr 3 (.int .i64) o0_0 false)]⟩))) (fun o0_0 => K (.normal ⟨[U, U, U, (.own 0), U, U, U, U, U, U, U, U, U, U, U], [(.arr 3 (.int .i64) o0_0 false)]⟩)) v.1.1 v.2.1) (by kernel_rfl) (by unfold g'p; rw [spec_NatOf_L0.succ])
theorem o'p (N : Nat) : PieceOK gd P (i'q N) (.block 0 (.loop (codeAt b'q [1, 1, 0, 0, 0]))) (mkPiece 65 p'p (g'p N N)) :=
  piece_loop hE hP (hct5 N) (AllOK.of (F := i'q N) (l := []) (by kernel_rfl) .nil) (fun n {_} => g'p N n) (fun _ _ => by unfold g'p; rw [spec_NatOf_L0.zero]) (fun n {_} v K => e'p N n v K) N
theorem oq'p (N : Nat) : PieceOK gd P (i'q N) (.block 0 (.loop (codeAt b'q [1, 1, 0, 0, 0]))) (q'p N) := (o'p N)
noncomputable def p'q : Pt := ⟨[(.i (.int .u64))], []⟩
noncomputable def z'q (F : type_of% @spec_NatOf) (v : p'q.V) (K : KF α) : Option α := F N v.1.1 (fun o0_0 => K (.own 0) [(.arr 3 (.int .i64) o0_0 false)])
noncomputable def g'q (v : p'q.V) (K : KF α) : Option α := z'q N @spec_NatOf v K
theorem e'q (v : p'q.V) (K : KF α) : runFn env (ct5 N) (i'q N) Tryz.f47 (SP.mkL p'q.slots v.1) (BP.mkL p'q.store v.2) K = g'q N v K := Eq.trans (b := z'q N @spec_NatOf.b v K) (by kernel_rfl) (by unfold g'q; rw [spec_NatOf.eq])
theorem o'q (N : Nat) : CalleeOK gd P 47 (mkCallee false p'q (g'q N)) :=
  callee_ok fun v K h => fn_snd hE hP (hct5 N) Tryz.func47 (by kernel_rfl) (body := b'q) (by kernel_rfl) (by kernel_rfl) (AllOK.of (F := i'q N) (l := [((.block 0 (.loop (codeAt b'q [1, 1, 0, 0, 0]))), q'p N)]) (by kernel_rfl) (.cons (oq'p N) .nil)) (loans := BP.mkL p'q.store v.2) rfl ((e'q N v K).trans h)
noncomputable def ct6 (N : Nat) : CT := (47, (mkCallee false p'q (g'q N))) :: ct5 N
theorem hct6 (N : Nat) : CTOK gd P (ct6 N) := .cons (o'q N) (hct5 N)

noncomputable def i'r (N : Nat) : Fi := { loans := 0, owns := true, results := [.tmp 4], rtys := [3], blks := [], regs := [], masks := [] }
noncomputable def b'r : Code := match Tryz.f87.body with | some c => c | none => .skip
noncomputable def p'r : Pt := ⟨[(.i (.sl (.int .i64))), (.i (.int .i64))], []⟩
noncomputable def z'r (F : type_of% @spec_l5At) (v : p'r.V) (K : KF α) : Option α := F N v.1.1 v.1.2.1 (fun o0_0 => K (.iv (.int .i64) o0_0) [])
noncomputable def g'r (v : p'r.V) (K : KF α) : Option α := z'r N @spec_l5At v K
theorem e'r (v : p'r.V) (K : KF α) : runFn env (ct6 N) (i'r N) Tryz.f87 (SP.mkL p'r.slots v.1) (BP.mkL p'r.store v.2) K = g'r N v K := Eq.trans (b := z'r N @spec_l5At.b v K) (by kernel_rfl) (by unfold g'r; rw [spec_l5At.eq])
theorem o'r (N : Nat) : CalleeOK gd P 87 (mkCallee false p'r (g'r N)) :=
  callee_ok fun v K h => fn_snd hE hP (hct6 N) Tryz.func87 (by kernel_rfl) (body := b'r) (by kernel_rfl) (by kernel_rfl) (AllOK.of (F := i'r N) (l := []) (by kernel_rfl) .nil) (loans := BP.mkL p'r.store v.2) rfl ((e'r N v K).trans h)
noncomputable def ct7 (N : Nat) : CT := (87, (mkCallee false p'r (g'r N))) :: ct6 N
theorem hct7 (N : Nat) : CTOK gd P (ct7 N) := .cons (o'r N) (hct6 N)

noncomputable def p's : Pt := ⟨[(.i (.sl (.int .i64))), (.i (.sl (.int .i64))), .u, .u, .u, (.i (.int .i64)), .u, .u, .u, .u, .u, .u, .u, .u, .u, .u, .u, .u, .u, .u, .u, .u, .u, .u, .u, .u, .u, .u, .u, .u, .u, .u, .u, .u, .u, .u, .u, .u, .u, .u, .u, .u, .u, .u, .u, .u], []⟩
noncomputable def z's (F : type_of% @spec_l5Add_J2) (v : p's.V) (K : KO α) : Option α := F N v.1.1 v.1.2.1 v.1.2.2.2.2.2.1 (fun o0_0 o0_1 o0_2 => K (.normal ⟨[(.iv (.sl (.int .i64)) o0_0), (.iv (.sl (.int .i64)) o0_1), U, U, U, (.iv (.int .i64) o0_2), U, U, U, U, U, U, U, U, U, U, U, U, U, U, U, U, U, U, U, U, U, U, U, U, U, U, U, U, U, U, U, U, U, U, U, U, U, U, U, U], []⟩))
noncomputable def g's (v : p's.V) (K : KO α) : Option α := z's N @spec_l5Add_J2 v K
noncomputable def p't : Pt := ⟨[(.i (.sl (.int .i64))), (.i (.sl (.int .i64))), .u, .u, .u, (.i (.int .i64)), (.o 0), (.i (.int .i64)), (.i (.int .i64)), .u, .u, .u, .u, .u, .u, .u, .u, .u, .u, .u, .u, .u, .u, .u, .u, .u, .u, .u, .u, .u, .u, .u, .u, .u, .u, .u, .u, .u, .u, .u, .u, .u, .u, .u, .u, .u], [(.arr 3 (.int .i64) false)]⟩
noncomputable def g't (n : Nat) (v : p't.V) (K : KO α) : Option α := spec_l5Add_L0 N n v.1.1 v.1.2.1 v.1.2.2.2.2.2.1 v.1.2.2.2.2.2.2.2.1 v.1.2.2.2.2.2.2.2.2.1 v.2.1 (fun o0_0 o0_1 => K (.normal ⟨(us 6 [(.own 0), (.iv (.int .i64) o0_0), U, U, U, U, U, U, U, U, U, U, U, U, U, U, U, U, U, U, U, U, U, U, U, U, U, U, U, U, U, U, U, U, U, U, U, U, U, U]), [(.arr 3 (.int .i64) o0_1 false)]⟩))
noncomputable def p'u : Pt := ⟨[.u, .u, .u, .u, .u, .u, (.o 0), (.i (.int .i64)), .u, .u, .u, .u, .u, .u, .u, .u, .u, .u, .u, .u, .u, .u, .u, .u, .u, .u, .u, .u, .u, .u, .u, .u, .u, .u, .u, .u, .u, .u, .u, .u, .u, .u, .u, .u, .u, .u], [(.arr 3 (.int .i64) false)]⟩
noncomputable def z'u (F : type_of% @spec_l5Add_J12) (v : p'u.V) (K : KO α) : Option α := F N v.1.2.2.2.2.2.2.2.1 v.2.1 (fun o0_0 => K (.normal ⟨(us 6 [(.own 0), U, U, U, U, U, U, U, U, U, U, U, U, U, U, U, U, U, U, U, U, U, U, U, U, U, U, U, U, U, U, U, U, U, U, U, U, U, U, U]), [(.arr 3 (.int .i64) o0_0 false)]⟩))
noncomputable def g'u (v : p'u.V) (K : KO α) : Option α := z'u N @spec_l5Add_J12 v K
noncomputable def q's (N : Nat) : Piece := (mkPiece 1029 p's (g's N))
noncomputable def q't (N : Nat) : Piece := (mkPiece 87045 p't (g't N N))
noncomputable def q'u (N : Nat) : Piece := (mkPiece 20480 p'u (g'u N))
noncomputable def i'v (N : Nat) : Fi := { loans := 0, owns := true, results := [.tmp 4], rtys := [23], blks := [(0, q't N)], regs := [(2, q's N), (12, q'u N)], masks := [(0, 20480)] }
noncomputable def b'v : Code := match Tryz.f45.body with | some c => c | none => .skip
theorem e's (v : p's.V) (K : KO α) : runSeq env (ct7 N) (i'v N) 1029 (.seq (codeAt b'v [1, 1, 0, 0]) (codeAt b'v [1, 1, 0, 1])) (p's.mk' v) K = g's N v K := Eq.trans (b := z's N @spec_l5Add_J2.b v K) (by kernel_rfl) (by unfold g's; rw [spec_l5Add_J2.eq])
theorem o's (N : Nat) : PieceOK gd P (i'v N) (.seq (codeAt b'v [1, 1, 0, 0]) (codeAt b'v [1, 1, 0, 1])) (mkPiece 1029 p's (g's N)) :=
  piece_seq hE hP (hct7 N) (AllOK.of (F := i'v N) (l := []) (by kernel_rfl) .nil) (AllOK.of (F := i'v N) (l := []) (by kernel_rfl) .nil) (e's N)
theorem oq's (N : Nat) : PieceOK gd P (i'v N) (.seq (codeAt b'v [1, 1, 0, 0]) (codeAt b'v [1, 1, 0, 1])) (q's N) := (o's N)
theorem e't (n : Nat) (v : p't.V) (K : KO α) : runRound env (ct7 N) (i'v N) 87045 (mkPiece 87045 p't (g't N n)).run (.block 0 (.loop (codeAt b'v [1, 1, 1, 1, 1, 0, 1, 0, 0]))) (p't.mk' v) K = g't N (n + 1) v K := Eq.trans (b := spec_l5Add_L0r N (fun y0 y1 y2 y3 y4 y5 => spec_l5Add_L0 N n y0 y1 y2 y3 y4 y5 (fun o0_0 o0_1 => K (.normal ⟨(us 6 [(.own 0), (.iv (.int .i64) o0_0), U, U, U, U, U, U, U, U, U, U, U, U, U, U, U, U, U, U, U, U, U, U, U, U, U, U, U, U, U, U, U, U, U, U, U, U, U, U]), [(.arr 3 (.int .i64) o0_1 false)]⟩))) (fun o0_0 o0_1 => K (.normal ⟨(us 6 [(.own 0), (.iv (.int .i64) o0_0), U, U, U, U, U, U, U, U, U, U, U, U, U, U, U, U, U, U, U, U, U, U, U, U, U, U, U, U, U, U, U, U, U, U, U, U, U, U]), [(.arr 3 (.int .i64) o0_1 false)]⟩)) v.1.1 v.1.2.1 v.1.2.2.2.2.2.1 v.1.2.2.2.2.2.2.2.1 v.1.2.2.2.2.2.2.2.2.1 v.2.1) (by kernel_rfl) (by unfold g't; rw [spec_l5Add_L0.succ])
theorem o't (N : Nat) : PieceOK gd P (i'v N) (.block 0 (.loop (codeAt b'v [1, 1, 1, 1, 1, 0, 1, 0, 0]))) (mkPiece 87045 p't (g't N N)) :=
  piece_loop hE hP (hct7 N) (AllOK.of (F := i'v N) (l := []) (by kernel_rfl) .nil) (fun n {_} => g't N n) (fun _ _ => by unfold g't; rw [spec_l5Add_L0.zero]) (fun n {_} v K => e't N n v K) N
theorem oq't (N : Nat) : PieceOK gd P (i'v N) (.block 0 (.loop (codeAt b'v [1, 1, 1, 1, 1, 0, 1, 0, 0]))) (q't N) := (o't N)
theorem e'u (v : p'u.V) (K : KO α) : runSeq env (ct7 N) (i'v N) 4096 (.seq (codeAt b'v [1, 1, 1, 1, 1, 1, 0, 0]) (codeAt b'v [1, 1, 1, 1, 1, 1, 0, 1])) (p'u.mk' v) K = g'u N v K := Eq.trans (b := z'u N @spec_l5Add_J12.b v K) (by kernel_rfl) (by unfold g'u; rw [spec_l5Add_J12.eq])
theorem o'u (N : Nat) : PieceOK gd P (i'v N) (.seq (codeAt b'v [1, 1, 1, 1, 1, 1, 0, 0]) (codeAt b'v [1, 1, 1, 1, 1, 1, 0, 1])) (mkPiece 20480 p'u (g'u N)) :=
  piece_seq hE hP (hct7 N) (AllOK.of (F := i'v N) (l := []) (by kernel_rfl) .nil) (AllOK.of (F := i'v N) (l := []) (by kernel_rfl) .nil) (e'u N)
theorem oq'u (N : Nat) : PieceOK gd P (i'v N) (.seq (codeAt b'v [1, 1, 1, 1, 1, 1, 0, 0]) (codeAt b'v [1, 1, 1, 1, 1, 1, 0, 1])) (q'u N) := (o'u N)
noncomputable def p'v : Pt := ⟨[(.i (.sl (.int .i64))), (.i (.sl (.int .i64)))], []⟩
noncomputable def z'v (F : type_of% @spec_l5Add) (v : p'v.V) (K : KF α) : Option α := F N v.1.1 v.1.2.1 (fun o0_0 => K (.own 0) [(.arr 3 (.int .i64) o0_0 false)])
noncomputable def g'v (v : p'v.V) (K : KF α) : Option α := z'v N @spec_l5Add v K
theorem e'v (v : p'v.V) (K : KF α) : runFn env (ct7 N) (i'v N) Tryz.f45 (SP.mkL p'v.slots v.1) (BP.mkL p'v.store v.2) K = g'v N v K := Eq.trans (b := z'v N @spec_l5Add.b v K) (by kernel_rfl) (by unfold g'v; rw [spec_l5Add.eq])
theorem o'v (N : Nat) : CalleeOK gd P 45 (mkCallee false p'v (g'v N)) :=
  callee_ok fun v K h => fn_snd hE hP (hct7 N) Tryz.func45 (by kernel_rfl) (body := b'v) (by kernel_rfl) (by kernel_rfl) (AllOK.of (F := i'v N) (l := [((.seq (codeAt b'v [1, 1, 0, 0]) (codeAt b'v [1, 1, 0, 1])), q's N), ((.block 0 (.loop (codeAt b'v [1, 1, 1, 1, 1, 0, 1, 0, 0]))), q't N), ((.seq (codeAt b'v [1, 1, 1, 1, 1, 1, 0, 0]) (codeAt b'v [1, 1, 1, 1, 1, 1, 0, 1])), q'u N)]) (by kernel_rfl) (.cons (oq's N) (.cons (oq't N) (.cons (oq'u N) .nil)))) (loans := BP.mkL p'v.store v.2) rfl ((e'v N v K).trans h)
noncomputable def ct8 (N : Nat) : CT := (45, (mkCallee false p'v (g'v N))) :: ct7 N
theorem hct8 (N : Nat) : CTOK gd P (ct8 N) := .cons (o'v N) (hct7 N)

noncomputable def p'w : Pt := ⟨[(.i (.int .i64)), .u, .u, (.o 0), (.i (.int .i64)), .u, .u, .u, .u, .u, .u, .u, .u, .u], [(.arr 3 (.int .i64) false)]⟩
noncomputable def g'w (n : Nat) (v : p'w.V) (K : KO α) : Option α := spec_l7Tens_L0 N n v.1.1 v.1.2.2.2.2.1 v.2.1 (fun o0_0 => K (.normal ⟨[U, U, U, (.own 0), U, U, U, U, U, U, U, U, U, U], [(.arr 3 (.int .i64) o0_0 false)]⟩))
noncomputable def q'w (N : Nat) : Piece := (mkPiece 321 p'w (g'w N N))
noncomputable def i'x (N : Nat) : Fi := { loans := 0, owns := true, results := [.tmp 2], rtys := [23], blks := [(0, q'w N)], regs := [], masks := [(0, 64)] }
noncomputable def b'x : Code := match Tryz.f50.body with | some c => c | none => .skip
theorem e'w (n : Nat) (v : p'w.V) (K : KO α) : runRound env (ct8 N) (i'x N) 321 (mkPiece 321 p'w (g'w N n)).run (.block 0 (.loop (codeAt b'x [1, 1, 0, 1, 0, 0]))) (p'w.mk' v) K = g'w N (n + 1) v K := Eq.trans (b := spec_l7Tens_L0r N (fun y0 y1 y2 => spec_l7Tens_L0 N n y0 y1 y2 (fun o0_0 => K (.normal ⟨[U, U, U, (.own 0), U, U, U, U, U, U, U, U, U, U], [(.arr 3 (.int .i64) o0_0 false)]⟩))) (fun o0_0 => K (.normal ⟨[U, U, U, (.own 0), U, U, U, U, U, U, U, U, U, U], [(.arr 3 (.int .i64) o0_0 false)]⟩)) v.1.1 v.1.2.2.2.2.1 v.2.1) (by kernel_rfl) (by unfold g'w; rw [spec_l7Tens_L0.succ])
theorem o'w (N : Nat) : PieceOK gd P (i'x N) (.block 0 (.loop (codeAt b'x [1, 1, 0, 1, 0, 0]))) (mkPiece 321 p'w (g'w N N)) :=
  piece_loop hE hP (hct8 N) (AllOK.of (F := i'x N) (l := []) (by kernel_rfl) .nil) (fun n {_} => g'w N n) (fun _ _ => by unfold g'w; rw [spec_l7Tens_L0.zero]) (fun n {_} v K => e'w N n v K) N
theorem oq'w (N : Nat) : PieceOK gd P (i'x N) (.block 0 (.loop (codeAt b'x [1, 1, 0, 1, 0, 0]))) (q'w N) := (o'w N)
noncomputable def p'x : Pt := ⟨[(.i (.int .i64))], []⟩
noncomputable def z'x (F : type_of% @spec_l7Tens) (v : p'x.V) (K : KF α) : Option α := F N v.1.1 (fun o0_0 => K (.own 0) [(.arr 3 (.int .i64) o0_0 false)])
noncomputable def g'x (v : p'x.V) (K : KF α) : Option α := z'x N @spec_l7Tens v K
theorem e'x (v : p'x.V) (K : KF α) : runFn env (ct8 N) (i'x N) Tryz.f50 (SP.mkL p'x.slots v.1) (BP.mkL p'x.store v.2) K = g'x N v K := Eq.trans (b := z'x N @spec_l7Tens.b v K) (by kernel_rfl) (by unfold g'x; rw [spec_l7Tens.eq])
theorem o'x (N : Nat) : CalleeOK gd P 50 (mkCallee false p'x (g'x N)) :=
  callee_ok fun v K h => fn_snd hE hP (hct8 N) Tryz.func50 (by kernel_rfl) (body := b'x) (by kernel_rfl) (by kernel_rfl) (AllOK.of (F := i'x N) (l := [((.block 0 (.loop (codeAt b'x [1, 1, 0, 1, 0, 0]))), q'w N)]) (by kernel_rfl) (.cons (oq'w N) .nil)) (loans := BP.mkL p'x.store v.2) rfl ((e'x N v K).trans h)
noncomputable def ct9 (N : Nat) : CT := (50, (mkCallee false p'x (g'x N))) :: ct8 N
theorem hct9 (N : Nat) : CTOK gd P (ct9 N) := .cons (o'x N) (hct8 N)

noncomputable def p'y : Pt := ⟨[(.i (.sl (.int .i64))), (.i (.sl (.int .i64))), .u, .u, .u, (.i (.int .i64)), .u, .u, .u, .u, .u, .u, .u, .u, .u, .u, .u, .u, .u, .u, .u, .u, .u, .u, .u, .u, .u, .u, .u, .u, .u, .u, .u, .u, .u, .u, .u, .u, .u, .u, .u], []⟩
noncomputable def g'y (n : Nat) (v : p'y.V) (K : KO α) : Option α := spec_l5Cmp_L0 N n v.1.1 v.1.2.1 v.1.2.2.2.2.2.1 (fun o0_0 => K (.ret (.iv (.int .i64) o0_0) [])) (K (.normal ⟨(us 41 []), []⟩))
noncomputable def q'y (N : Nat) : Piece := (mkPiece 1029 p'y (g'y N N))
noncomputable def i'z (N : Nat) : Fi := { loans := 0, owns := true, results := [.tmp 4], rtys := [3], blks := [(0, q'y N)], regs := [], masks := [(0, 0)] }
noncomputable def b'z : Code := match Tryz.f115.body with | some c => c | none => .skip
theorem e'y (n : Nat) (v : p'y.V) (K : KO α) : runRound env (ct9 N) (i'z N) 1029 (mkPiece 1029 p'y (g'y N n)).run (.block 0 (.loop (codeAt b'z [1, 1, 1, 0, 1, 0, 0]))) (p'y.mk' v) K = g'y N (n + 1) v K := Eq.trans (b := spec_l5Cmp_L0r N (fun y0 y1 y2 => spec_l5Cmp_L0 N n y0 y1 y2 (fun o0_0 => K (.ret (.iv (.int .i64) o0_0) [])) (K (.normal ⟨(us 41 []), []⟩))) (fun o0_0 => K (.ret (.iv (.int .i64) o0_0) [])) (K (.normal ⟨(us 41 []), []⟩)) v.1.1 v.1.2.1 v.1.2.2.2.2.2.1) (by kernel_rfl) (by unfold g'y; rw [spec_l5Cmp_L0.succ])
theorem o'y (N : Nat) : PieceOK gd P (i'z N) (.block 0 (.loop (codeAt b'z [1, 1, 1, 0, 1, 0, 0]))) (mkPiece 1029 p'y (g'y N N)) :=
  piece_loop hE hP (hct9 N) (AllOK.of (F := i'z N) (l := []) (by kernel_rfl) .nil) (fun n {_} => g'y N n) (fun _ _ => by unfold g'y; rw [spec_l5Cmp_L0.zero]) (fun n {_} v K => e'y N n v K) N
theorem oq'y (N : Nat) : PieceOK gd P (i'z N) (.block 0 (.loop (codeAt b'z [1, 1, 1, 0, 1, 0, 0]))) (q'y N) := (o'y N)
noncomputable def p'z : Pt := ⟨[(.i (.sl (.int .i64))), (.i (.sl (.int .i64)))], []⟩
noncomputable def z'z (F : type_of% @spec_l5Cmp) (v : p'z.V) (K : KF α) : Option α := F N v.1.1 v.1.2.1 (fun o0_0 => K (.iv (.int .i64) o0_0) [])
noncomputable def g'z (v : p'z.V) (K : KF α) : Option α := z'z N @spec_l5Cmp v K
theorem e'z (v : p'z.V) (K : KF α) : runFn env (ct9 N) (i'z N) Tryz.f115 (SP.mkL p'z.slots v.1) (BP.mkL p'z.store v.2) K = g'z N v K := Eq.trans (b := z'z N @spec_l5Cmp.b v K) (by kernel_rfl) (by unfold g'z; rw [spec_l5Cmp.eq])
theorem o'z (N : Nat) : CalleeOK gd P 115 (mkCallee false p'z (g'z N)) :=
  callee_ok fun v K h => fn_snd hE hP (hct9 N) Tryz.func115 (by kernel_rfl) (body := b'z) (by kernel_rfl) (by kernel_rfl) (AllOK.of (F := i'z N) (l := [((.block 0 (.loop (codeAt b'z [1, 1, 1, 0, 1, 0, 0]))), q'y N)]) (by kernel_rfl) (.cons (oq'y N) .nil)) (loans := BP.mkL p'z.store v.2) rfl ((e'z N v K).trans h)
noncomputable def ct10 (N : Nat) : CT := (115, (mkCallee false p'z (g'z N))) :: ct9 N
theorem hct10 (N : Nat) : CTOK gd P (ct10 N) := .cons (o'z N) (hct9 N)

noncomputable def p'A : Pt := ⟨[(.i (.sl (.int .i64))), (.i (.int .i64)), .u, .u, .u, .u, (.o 0), (.i (.int .i64)), (.i (.int .i64)), .u, .u, .u, .u, .u, .u, .u, .u, .u, .u, .u, .u, .u, .u, .u, .u, .u, .u, .u, .u, .u, .u, .u, .u, .u, .u, .u, .u, .u, .u], [(.arr 3 (.int .i64) false)]⟩
noncomputable def g'A (n : Nat) (v : p'A.V) (K : KO α) : Option α := spec_l5DivSmall_L0 N n v.1.1 v.1.2.1 v.1.2.2.2.2.2.2.2.1 v.1.2.2.2.2.2.2.2.2.1 v.2.1 (fun o0_0 o0_1 => K (.normal ⟨(us 6 [(.own 0), (.iv (.int .i64) o0_0), U, U, U, U, U, U, U, U, U, U, U, U, U, U, U, U, U, U, U, U, U, U, U, U, U, U, U, U, U, U, U]), [(.arr 3 (.int .i64) o0_1 false)]⟩))
noncomputable def q'A (N : Nat) : Piece := (mkPiece 86021 p'A (g'A N N))
noncomputable def i'B (N : Nat) : Fi := { loans := 0, owns := true, results := [.tmp 4, .tmp 5], rtys := [23, 3], blks := [(0, q'A N)], regs := [], masks := [(0, 20480)] }
noncomputable def b'B : Code := match Tryz.f116.body with | some c => c | none => .skip
theorem e'A (n : Nat) (v : p'A.V) (K : KO α) : runRound env (ct10 N) (i'B N) 86021 (mkPiece 86021 p'A (g'A N n)).run (.block 0 (.loop (codeAt b'B [1, 1, 1, 0, 1, 0, 0]))) (p'A.mk' v) K = g'A N (n + 1) v K := Eq.trans (b := spec_l5DivSmall_L0r N (fun y0 y1 y2 y3 y4 => spec_l5DivSmall_L0 N n y0 y1 y2 y3 y4 (fun o0_0 o0_1 => K (.normal ⟨(us 6 [(.own 0), (.iv (.int .i64) o0_0), U, U, U, U, U, U, U, U, U, U, U, U, U, U, U, U, U, U, U, U, U, U, U, U, U, U, U, U, U, U, U]), [(.arr 3 (.int .i64) o0_1 false)]⟩))) (fun o0_0 o0_1 => K (.normal ⟨(us 6 [(.own 0), (.iv (.int .i64) o0_0), U, U, U, U, U, U, U, U, U, U, U, U, U, U, U, U, U, U, U, U, U, U, U, U, U, U, U, U, U, U, U]), [(.arr 3 (.int .i64) o0_1 false)]⟩)) v.1.1 v.1.2.1 v.1.2.2.2.2.2.2.2.1 v.1.2.2.2.2.2.2.2.2.1 v.2.1) (by kernel_rfl) (by unfold g'A; rw [spec_l5DivSmall_L0.succ])
theorem o'A (N : Nat) : PieceOK gd P (i'B N) (.block 0 (.loop (codeAt b'B [1, 1, 1, 0, 1, 0, 0]))) (mkPiece 86021 p'A (g'A N N)) :=
  piece_loop hE hP (hct10 N) (AllOK.of (F := i'B N) (l := []) (by kernel_rfl) .nil) (fun n {_} => g'A N n) (fun _ _ => by unfold g'A; rw [spec_l5DivSmall_L0.zero]) (fun n {_} v K => e'A N n v K) N
theorem oq'A (N : Nat) : PieceOK gd P (i'B N) (.block 0 (.loop (codeAt b'B [1, 1, 1, 0, 1, 0, 0]))) (q'A N) := (o'A N)
noncomputable def p'B : Pt := ⟨[(.i (.sl (.int .i64))), (.i (.int .i64))], []⟩
noncomputable def z'B (F : type_of% @spec_l5DivSmall) (v : p'B.V) (K : KF α) : Option α := F N v.1.1 v.1.2.1 (fun o0_0 o0_1 => K (.tuple [(.own 0), (.iv (.int .i64) o0_0)]) [(.arr 3 (.int .i64) o0_1 false)])
noncomputable def g'B (v : p'B.V) (K : KF α) : Option α := z'B N @spec_l5DivSmall v K
theorem e'B (v : p'B.V) (K : KF α) : runFn env (ct10 N) (i'B N) Tryz.f116 (SP.mkL p'B.slots v.1) (BP.mkL p'B.store v.2) K = g'B N v K := Eq.trans (b := z'B N @spec_l5DivSmall.b v K) (by kernel_rfl) (by unfold g'B; rw [spec_l5DivSmall.eq])
theorem o'B (N : Nat) : CalleeOK gd P 116 (mkCallee false p'B (g'B N)) :=
  callee_ok fun v K h => fn_snd hE hP (hct10 N) Tryz.func116 (by kernel_rfl) (body := b'B) (by kernel_rfl) (by kernel_rfl) (AllOK.of (F := i'B N) (l := [((.block 0 (.loop (codeAt b'B [1, 1, 1, 0, 1, 0, 0]))), q'A N)]) (by kernel_rfl) (.cons (oq'A N) .nil)) (loans := BP.mkL p'B.store v.2) rfl ((e'B N v K).trans h)
noncomputable def ct11 (N : Nat) : CT := (116, (mkCallee false p'B (g'B N))) :: ct10 N
theorem hct11 (N : Nat) : CTOK gd P (ct11 N) := .cons (o'B N) (hct10 N)

noncomputable def p'C : Pt := ⟨[(.i (.sl (.int .i64))), .u, .u, .u, .u, (.o 0), (.i (.int .i64)), .u, .u, .u, .u, .u, .u, .u, .u, .u, .u, .u, .u, .u, .u, .u], [(.arr 3 (.int .i64) false)]⟩
noncomputable def g'C (n : Nat) (v : p'C.V) (K : KO α) : Option α := spec_l5Top_L0 N n v.1.1 v.1.2.2.2.2.2.2.1 v.2.1 (fun o0_0 => K (.normal ⟨(us 5 [(.own 0), U, U, U, U, U, U, U, U, U, U, U, U, U, U, U, U]), [(.arr 3 (.int .i64) o0_0 false)]⟩))
noncomputable def q'C (N : Nat) : Piece := (mkPiece 5121 p'C (g'C N N))
noncomputable def i'D (N : Nat) : Fi := { loans := 0, owns := true, results := [.tmp 4], rtys := [23], blks := [(0, q'C N)], regs := [], masks := [(0, 1024)] }
noncomputable def b'D : Code := match Tryz.f117.body with | some c => c | none => .skip
theorem e'C (n : Nat) (v : p'C.V) (K : KO α) : runRound env (ct11 N) (i'D N) 5121 (mkPiece 5121 p'C (g'C N n)).run (.block 0 (.loop (codeAt b'D [1, 1, 0, 1, 0, 0]))) (p'C.mk' v) K = g'C N (n + 1) v K := Eq.trans (b := spec_l5Top_L0r N (fun y0 y1 y2 => spec_l5Top_L0 N n y0 y1 y2 (fun o0_0 => K (.normal ⟨(us 5 [(.own 0), U, U, U, U, U, U, U, U, U, U, U, U, U, U, U, U]), [(.arr 3 (.int .i64) o0_0 false)]⟩))) (fun o0_0 => K (.normal ⟨(us 5 [(.own 0), U, U, U, U, U, U, U, U, U, U, U, U, U, U, U, U]), [(.arr 3 (.int .i64) o0_0 false)]⟩)) v.1.1 v.1.2.2.2.2.2.2.1 v.2.1) (by kernel_rfl) (by unfold g'C; rw [spec_l5Top_L0.succ])
theorem o'C (N : Nat) : PieceOK gd P (i'D N) (.block 0 (.loop (codeAt b'D [1, 1, 0, 1, 0, 0]))) (mkPiece 5121 p'C (g'C N N)) :=
  piece_loop hE hP (hct11 N) (AllOK.of (F := i'D N) (l := []) (by kernel_rfl) .nil) (fun n {_} => g'C N n) (fun _ _ => by unfold g'C; rw [spec_l5Top_L0.zero]) (fun n {_} v K => e'C N n v K) N
theorem oq'C (N : Nat) : PieceOK gd P (i'D N) (.block 0 (.loop (codeAt b'D [1, 1, 0, 1, 0, 0]))) (q'C N) := (o'C N)
noncomputable def p'D : Pt := ⟨[(.i (.sl (.int .i64))), (.i (.int .i64))], []⟩
noncomputable def z'D (F : type_of% @spec_l5Top) (v : p'D.V) (K : KF α) : Option α := F N v.1.1 v.1.2.1 (fun o0_0 => K (.own 0) [(.arr 3 (.int .i64) o0_0 false)])
noncomputable def g'D (v : p'D.V) (K : KF α) : Option α := z'D N @spec_l5Top v K
theorem e'D (v : p'D.V) (K : KF α) : runFn env (ct11 N) (i'D N) Tryz.f117 (SP.mkL p'D.slots v.1) (BP.mkL p'D.store v.2) K = g'D N v K := Eq.trans (b := z'D N @spec_l5Top.b v K) (by kernel_rfl) (by unfold g'D; rw [spec_l5Top.eq])
theorem o'D (N : Nat) : CalleeOK gd P 117 (mkCallee false p'D (g'D N)) :=
  callee_ok fun v K h => fn_snd hE hP (hct11 N) Tryz.func117 (by kernel_rfl) (body := b'D) (by kernel_rfl) (by kernel_rfl) (AllOK.of (F := i'D N) (l := [((.block 0 (.loop (codeAt b'D [1, 1, 0, 1, 0, 0]))), q'C N)]) (by kernel_rfl) (.cons (oq'C N) .nil)) (loans := BP.mkL p'D.store v.2) rfl ((e'D N v K).trans h)
noncomputable def ct12 (N : Nat) : CT := (117, (mkCallee false p'D (g'D N))) :: ct11 N
theorem hct12 (N : Nat) : CTOK gd P (ct12 N) := .cons (o'D N) (hct11 N)

noncomputable def p'E : Pt := ⟨[(.i (.sl (.int .i64))), .u, .u, .u, .u, (.o 0), (.i (.int .i64)), .u, .u, .u, .u, .u, .u, .u, .u, .u, .u, .u, .u, .u, .u, .u, .u, .u, .u, .u], [(.arr 3 (.int .i64) false)]⟩
noncomputable def g'E (n : Nat) (v : p'E.V) (K : KO α) : Option α := spec_l5Shl_L0 N n v.1.1 v.1.2.2.2.2.2.2.1 v.2.1 (fun o0_0 => K (.normal ⟨(us 5 [(.own 0), U, U, U, U, U, U, U, U, U, U, U, U, U, U, U, U, U, U, U, U]), [(.arr 3 (.int .i64) o0_0 false)]⟩))
noncomputable def q'E (N : Nat) : Piece := (mkPiece 5121 p'E (g'E N N))
noncomputable def i'F (N : Nat) : Fi := { loans := 0, owns := true, results := [.tmp 4], rtys := [23], blks := [(0, q'E N)], regs := [], masks := [(0, 1024)] }
noncomputable def b'F : Code := match Tryz.f118.body with | some c => c | none => .skip
theorem e'E (n : Nat) (v : p'E.V) (K : KO α) : runRound env (ct12 N) (i'F N) 5121 (mkPiece 5121 p'E (g'E N n)).run (.block 0 (.loop (codeAt b'F [1, 1, 1, 0, 1, 0, 0]))) (p'E.mk' v) K = g'E N (n + 1) v K := Eq.trans (b := spec_l5Shl_L0r N (fun y0 y1 y2 => spec_l5Shl_L0 N n y0 y1 y2 (fun o0_0 => K (.normal ⟨(us 5 [(.own 0), U, U, U, U, U, U, U, U, U, U, U, U, U, U, U, U, U, U, U, U]), [(.arr 3 (.int .i64) o0_0 false)]⟩))) (fun o0_0 => K (.normal ⟨(us 5 [(.own 0), U, U, U, U, U, U, U, U, U, U, U, U, U, U, U, U, U, U, U, U]), [(.arr 3 (.int .i64) o0_0 false)]⟩)) v.1.1 v.1.2.2.2.2.2.2.1 v.2.1) (by kernel_rfl) (by unfold g'E; rw [spec_l5Shl_L0.succ])
theorem o'E (N : Nat) : PieceOK gd P (i'F N) (.block 0 (.loop (codeAt b'F [1, 1, 1, 0, 1, 0, 0]))) (mkPiece 5121 p'E (g'E N N)) :=
  piece_loop hE hP (hct12 N) (AllOK.of (F := i'F N) (l := []) (by kernel_rfl) .nil) (fun n {_} => g'E N n) (fun _ _ => by unfold g'E; rw [spec_l5Shl_L0.zero]) (fun n {_} v K => e'E N n v K) N
theorem oq'E (N : Nat) : PieceOK gd P (i'F N) (.block 0 (.loop (codeAt b'F [1, 1, 1, 0, 1, 0, 0]))) (q'E N) := (o'E N)
noncomputable def p'F : Pt := ⟨[(.i (.sl (.int .i64))), (.i (.int .i64))], []⟩
noncomputable def z'F (F : type_of% @spec_l5Shl) (v : p'F.V) (K : KF α) : Option α := F N v.1.1 v.1.2.1 (fun o0_0 => K (.own 0) [(.arr 3 (.int .i64) o0_0 false)])
noncomputable def g'F (v : p'F.V) (K : KF α) : Option α := z'F N @spec_l5Shl v K
theorem e'F (v : p'F.V) (K : KF α) : runFn env (ct12 N) (i'F N) Tryz.f118 (SP.mkL p'F.slots v.1) (BP.mkL p'F.store v.2) K = g'F N v K := Eq.trans (b := z'F N @spec_l5Shl.b v K) (by kernel_rfl) (by unfold g'F; rw [spec_l5Shl.eq])
theorem o'F (N : Nat) : CalleeOK gd P 118 (mkCallee false p'F (g'F N)) :=
  callee_ok fun v K h => fn_snd hE hP (hct12 N) Tryz.func118 (by kernel_rfl) (body := b'F) (by kernel_rfl) (by kernel_rfl) (AllOK.of (F := i'F N) (l := [((.block 0 (.loop (codeAt b'F [1, 1, 1, 0, 1, 0, 0]))), q'E N)]) (by kernel_rfl) (.cons (oq'E N) .nil)) (loans := BP.mkL p'F.store v.2) rfl ((e'F N v K).trans h)
noncomputable def ct13 (N : Nat) : CT := (118, (mkCallee false p'F (g'F N))) :: ct12 N
theorem hct13 (N : Nat) : CTOK gd P (ct13 N) := .cons (o'F N) (hct12 N)

noncomputable def p'G : Pt := ⟨[(.i (.sl (.int .i64))), (.i (.sl (.int .i64))), .u, .u, .u, (.o 0), (.i (.int .i64)), (.i (.int .i64)), (.i (.int .i64)), .u, .u, .u, .u, .u, .u, .u, .u, .u, .u, .u, .u, .u, .u, .u, .u, .u, .u, .u, .u, .u, .u, .u, .u, .u, .u], [(.arr 3 (.int .i64) false)]⟩
noncomputable def z'G (F : type_of% @spec_l5Sub_J8) (v : p'G.V) (K : KO α) : Option α := F N v.1.1 v.1.2.1 v.1.2.2.2.2.2.2.1 v.1.2.2.2.2.2.2.2.1 v.1.2.2.2.2.2.2.2.2.1 v.2.1 (fun o0_0 o0_1 o0_2 o0_3 o0_4 o0_5 => K (.normal ⟨[(.iv (.sl (.int .i64)) o0_0), (.iv (.sl (.int .i64)) o0_1), U, U, U, (.own 0), (.iv (.int .i64) o0_2), (.iv (.int .i64) o0_3), (.iv (.int .i64) o0_4), U, U, U, U, U, U, U, U, U, U, U, U, U, U, U, U, U, U, U, U, U, U, U, U, U, U], [(.arr 3 (.int .i64) o0_5 false)]⟩))
noncomputable def g'G (v : p'G.V) (K : KO α) : Option α := z'G N @spec_l5Sub_J8 v K
noncomputable def p'H : Pt := ⟨[(.i (.sl (.int .i64))), (.i (.sl (.int .i64))), .u, .u, .u, (.o 0), (.i (.int .i64)), (.i (.int .i64)), .u, .u, .u, .u, .u, .u, .u, .u, .u, .u, .u, .u, .u, .u, .u, .u, .u, .u, .u, .u, .u, .u, .u, .u, .u, .u, .u], [(.arr 3 (.int .i64) false)]⟩
noncomputable def g'H (n : Nat) (v : p'H.V) (K : KO α) : Option α := spec_l5Sub_L0 N n v.1.1 v.1.2.1 v.1.2.2.2.2.2.2.1 v.1.2.2.2.2.2.2.2.1 v.2.1 (fun o0_0 => K (.normal ⟨(us 5 [(.own 0), U, U, U, U, U, U, U, U, U, U, U, U, U, U, U, U, U, U, U, U, U, U, U, U, U, U, U, U, U]), [(.arr 3 (.int .i64) o0_0 false)]⟩))
noncomputable def q'G (N : Nat) : Piece := (mkPiece 87045 p'G (g'G N))
noncomputable def q'H (N : Nat) : Piece := (mkPiece 21509 p'H (g'H N N))
noncomputable def i'I (N : Nat) : Fi := { loans := 0, owns := true, results := [.tmp 4], rtys := [23], blks := [(0, q'H N)], regs := [(8, q'G N)], masks := [(0, 1024)] }
noncomputable def b'I : Code := match Tryz.f119.body with | some c => c | none => .skip
theorem e'G (v : p'G.V) (K : KO α) : runSeq env (ct13 N) (i'I N) 87045 (.seq (codeAt b'I [1, 1, 1, 0, 1, 0, 0, 1, 0, 0, 1, 1, 0, 0]) (codeAt b'I [1, 1, 1, 0, 1, 0, 0, 1, 0, 0, 1, 1, 0, 1])) (p'G.mk' v) K = g'G N v K := Eq.trans (b := z'G N @spec_l5Sub_J8.b v K) (by kernel_rfl) (by unfold g'G; rw [spec_l5Sub_J8.eq])
theorem o'G (N : Nat) : PieceOK gd P (i'I N) (.seq (codeAt b'I [1, 1, 1, 0, 1, 0, 0, 1, 0, 0, 1, 1, 0, 0]) (codeAt b'I [1, 1, 1, 0, 1, 0, 0, 1, 0, 0, 1, 1, 0, 1])) (mkPiece 87045 p'G (g'G N)) :=
  piece_seq hE hP (hct13 N) (AllOK.of (F := i'I N) (l := []) (by kernel_rfl) .nil) (AllOK.of (F := i'I N) (l := []) (by kernel_rfl) .nil) (e'G N)
theorem oq'G (N : Nat) : PieceOK gd P (i'I N) (.seq (codeAt b'I [1, 1, 1, 0, 1, 0, 0, 1, 0, 0, 1, 1, 0, 0]) (codeAt b'I [1, 1, 1, 0, 1, 0, 0, 1, 0, 0, 1, 1, 0, 1])) (q'G N) := (o'G N)
theorem e'H (n : Nat) (v : p'H.V) (K : KO α) : runRound env (ct13 N) (i'I N) 21509 (mkPiece 21509 p'H (g'H N n)).run (.block 0 (.loop (codeAt b'I [1, 1, 1, 0, 1, 0, 0]))) (p'H.mk' v) K = g'H N (n + 1) v K := Eq.trans (b := spec_l5Sub_L0r N (fun y0 y1 y2 y3 y4 => spec_l5Sub_L0 N n y0 y1 y2 y3 y4 (fun o0_0 => K (.normal ⟨(us 5 [(.own 0), U, U, U, U, U, U, U, U, U, U, U, U, U, U, U, U, U, U, U, U, U, U, U, U, U, U, U, U, U]), [(.arr 3 (.int .i64) o0_0 false)]⟩))) (fun o0_0 => K (.normal ⟨(us 5 [(.own 0), U, U, U, U, U, U, U, U, U, U, U, U, U, U, U, U, U, U, U, U, U, U, U, U, U, U, U, U, U]), [(.arr 3 (.int .i64) o0_0 false)]⟩)) v.1.1 v.1.2.1 v.1.2.2.2.2.2.2.1 v.1.2.2.2.2.2.2.2.1 v.2.1) (by kernel_rfl) (by unfold g'H; rw [spec_l5Sub_L0.succ])
theorem o'H (N : Nat) : PieceOK gd P (i'I N) (.block 0 (.loop (codeAt b'I [1, 1, 1, 0, 1, 0, 0]))) (mkPiece 21509 p'H (g'H N N)) :=
  piece_loop hE hP (hct13 N) (AllOK.of (F := i'I N) (l := [((.seq (codeAt b'I [1, 1, 1, 0, 1, 0, 0, 1, 0, 0, 1, 1, 0, 0]) (codeAt b'I [1, 1, 1, 0, 1, 0, 0, 1, 0, 0, 1, 1, 0, 1])), q'G N)]) (by kernel_rfl) (.cons (oq'G N) .nil)) (fun n {_} => g'H N n) (fun _ _ => by unfold g'H; rw [spec_l5Sub_L0.zero]) (fun n {_} v K => e'H N n v K) N
theorem oq'H (N : Nat) : PieceOK gd P (i'I N) (.block 0 (.loop (codeAt b'I [1, 1, 1, 0, 1, 0, 0]))) (q'H N) := (o'H N)
noncomputable def p'I : Pt := ⟨[(.i (.sl (.int .i64))), (.i (.sl (.int .i64)))], []⟩
noncomputable def z'I (F : type_of% @spec_l5Sub) (v : p'I.V) (K : KF α) : Option α := F N v.1.1 v.1.2.1 (fun o0_0 => K (.own 0) [(.arr 3 (.int .i64) o0_0 false)])
noncomputable def g'I (v : p'I.V) (K : KF α) : Option α := z'I N @spec_l5Sub v K
theorem e'I (v : p'I.V) (K : KF α) : runFn env (ct13 N) (i'I N) Tryz.f119 (SP.mkL p'I.slots v.1) (BP.mkL p'I.store v.2) K = g'I N v K := Eq.trans (b := z'I N @spec_l5Sub.b v K) (by kernel_rfl) (by unfold g'I; rw [spec_l5Sub.eq])
theorem o'I (N : Nat) : CalleeOK gd P 119 (mkCallee false p'I (g'I N)) :=
  callee_ok fun v K h => fn_snd hE hP (hct13 N) Tryz.func119 (by kernel_rfl) (body := b'I) (by kernel_rfl) (by kernel_rfl) (AllOK.of (F := i'I N) (l := [((.block 0 (.loop (codeAt b'I [1, 1, 1, 0, 1, 0, 0]))), q'H N)]) (by kernel_rfl) (.cons (oq'H N) .nil)) (loans := BP.mkL p'I.store v.2) rfl ((e'I N v K).trans h)
noncomputable def ct14 (N : Nat) : CT := (119, (mkCallee false p'I (g'I N))) :: ct13 N
theorem hct14 (N : Nat) : CTOK gd P (ct14 N) := .cons (o'I N) (hct13 N)

noncomputable def p'J : Pt := ⟨[.u, .u, .u, .u, .u, .u, .u, .u, (.i (.int .i64)), (.o 0), (.o 1), (.i (.int .i64)), (.o 2), (.o 3), (.i (.int .i64)), (.i (.int .i64)), .u, .u, .u, .u, .u, .u, .u, .u, .u, .u, .u, .u, .u, .u, .u, .u, .u, .u, .u, .u, .u, .u, .u, .u, .u, .u, .u, .u, .u, .u, .u, .u, .u, .u, .u, .u, .u, .u, .u, .u, .u, .u, .u, .u, .u, .u, .u, .u, .u, .u, .u, .u, .u, .u, .u, .u, .u, .u, .u, .u, .u, .u, .u, .u, .u, .u, .u, .u, .u, .u, .u, .u, .u, .u, .u, .u, .u, .u, .u, .u, .u, .u, .u, .u, .u, .u, .u, .u, .u, .u, .u, .u, .u, .u, .u, .u, .u, .u, .u, .u, .u, .u, .u, .u, .u, .u, .u, .u, .u, .u, .u, .u, .u, .u, .u, .u], [(.arr 3 (.int .i64) false), (.arr 3 (.int .i64) false), (.arr 3 (.int .i64) false), (.arr 3 (.int .i64) false)]⟩
noncomputable def z'J (F : type_of% @spec_l5Div_J17) (v : p'J.V) (K : KO α) : Option α := F N v.1.2.2.2.2.2.2.2.2.1 v.1.2.2.2.2.2.2.2.2.2.2.2.1 v.1.2.2.2.2.2.2.2.2.2.2.2.2.2.2.1 v.1.2.2.2.2.2.2.2.2.2.2.2.2.2.2.2.1 v.2.1 v.2.2.1 v.2.2.2.1 v.2.2.2.2.1 (fun o0_0 o0_1 o0_2 o0_3 o0_4 o0_5 o0_6 o0_7 => K (.normal ⟨(us 8 [(.iv (.int .i64) o0_0), (.own 0), (.own 1), (.iv (.int .i64) o0_1), (.own 2), (.own 3), (.iv (.int .i64) o0_2), (.iv (.int .i64) o0_3), U, U, U, U, U, U, U, U, U, U, U, U, U, U, U, U, U, U, U, U, U, U, U, U, U, U, U, U, U, U, U, U, U, U, U, U, U, U, U, U, U, U, U, U, U, U, U, U, U, U, U, U, U, U, U, U, U, U, U, U, U, U, U, U, U, U, U, U, U, U, U, U, U, U, U, U, U, U, U, U, U, U, U, U, U, U, U, U, U, U, U, U, U, U, U, U, U, U, U, U, U, U, U, U, U, U, U, U, U, U, U, U, U, U, U, U]), [(.arr 3 (.int .i64) o0_4 false), (.arr 3 (.int .i64) o0_5 false), (.arr 3 (.int .i64) o0_6 false), (.arr 3 (.int .i64) o0_7 false)]⟩))
noncomputable def g'J (v : p'J.V) (K : KO α) : Option α := z'J N @spec_l5Div_J17 v K
noncomputable def p'K : Pt := ⟨[.u, .u, .u, .u, .u, .u, .u, .u, (.i (.int .i64)), (.o 0), (.o 1), (.i (.int .i64)), (.o 2), (.o 3), (.i (.int .i64)), (.i (.int .i64)), (.o 4), .u, .u, .u, .u, .u, .u, .u, .u, .u, .u, .u, .u, .u, .u, .u, .u, .u, .u, .u, .u, .u, .u, .u, .u, .u, .u, .u, .u, .u, .u, .u, .u, .u, .u, .u, .u, .u, .u, .u, .u, .u, .u, .u, .u, .u, .u, .u, .u, .u, .u, .u, .u, .u, .u, .u, .u, .u, .u, .u, .u, .u, .u, .u, .u, .u, .u, .u, .u, .u, .u, .u, .u, .u, .u, .u, .u, .u, .u, .u, .u, .u, .u, .u, .u, .u, .u, .u, .u, .u, .u, .u, .u, .u, .u, .u, .u, .u, .u, .u, .u, .u, .u, .u, .u, .u, .u, .u, .u, .u, .u, .u, .u, .u, .u, .u], [(.arr 3 (.int .i64) false), (.arr 3 (.int .i64) false), (.arr 3 (.int .i64) false), (.arr 3 (.int .i64) false), (.arr 3 (.int .i64) false)]⟩
noncomputable def g'K (n : Nat) (v : p'K.V) (K : KO α) : Option α := spec_l5Div_L2 N n v.1.2.2.2.2.2.2.2.2.1 v.1.2.2.2.2.2.2.2.2.2.2.2.1 v.1.2.2.2.2.2.2.2.2.2.2.2.2.2.2.1 v.1.2.2.2.2.2.2.2.2.2.2.2.2.2.2.2.1 v.2.1 v.2.2.1 v.2.2.2.1 v.2.2.2.2.1 v.2.2.2.2.2.1 (fun o0_0 o0_1 o0_2 o0_3 o0_4 o0_5 o0_6 o0_7 o0_8 => K (.normal ⟨(us 8 [(.iv (.int .i64) o0_0), (.own 0), (.own 1), (.iv (.int .i64) o0_1), (.own 2), (.own 3), (.iv (.int .i64) o0_2), (.iv (.int .i64) o0_3), (.own 4), U, U, U, U, U, U, U, U, U, U, U, U, U, U, U, U, U, U, U, U, U, U, U, U, U, U, U, U, U, U, U, U, U, U, U, U, U, U, U, U, U, U, U, U, U, U, U, U, U, U, U, U, U, U, U, U, U, U, U, U, U, U, U, U, U, U, U, U, U, U, U, U, U, U, U, U, U, U, U, U, U, U, U, U, U, U, U, U, U, U, U, U, U, U, U, U, U, U, U, U, U, U, U, U, U, U, U, U, U, U, U, U, U, U, U]), [(.arr 3 (.int .i64) o0_4 false), (.arr 3 (.int .i64) o0_5 false), (.arr 3 (.int .i64) o0_6 false), (.arr 3 (.int .i64) o0_7 false), (.arr 3 (.int .i64) o0_8 false)]⟩))
noncomputable def p'L : Pt := ⟨[.u, .u, .u, .u, .u, .u, .u, .u, (.i (.int .i64)), (.o 0), (.o 1), (.i (.int .i64)), (.o 2), (.o 3), (.i (.int .i64)), .u, .u, .u, .u, .u, .u, .u, .u, .u, .u, .u, .u, .u, .u, .u, .u, .u, .u, .u, .u, .u, .u, .u, .u, .u, .u, .u, .u, .u, .u, .u, .u, .u, .u, .u, .u, .u, .u, .u, .u, .u, .u, .u, .u, .u, .u, .u, .u, .u, .u, .u, .u, .u, .u, .u, .u, .u, .u, .u, .u, .u, .u, .u, .u, .u, .u, .u, .u, .u, .u, .u, .u, .u, .u, .u, .u, .u, .u, .u, .u, .u, .u, .u, .u, .u, .u, .u, .u, .u, .u, .u, .u, .u, .u, .u, .u, .u, .u, .u, .u, .u, .u, .u, .u, .u, .u, .u, .u, .u, .u, .u, .u, .u, .u, .u, .u, .u], [(.arr 3 (.int .i64) false), (.arr 3 (.int .i64) false), (.arr 3 (.int .i64) false), (.arr 3 (.int .i64) false)]⟩
noncomputable def g'L (n : Nat) (v : p'L.V) (K : KO α) : Option α := spec_l5Div_L0 N n v.1.2.2.2.2.2.2.2.2.1 v.1.2.2.2.2.2.2.2.2.2.2.2.1 v.1.2.2.2.2.2.2.2.2.2.2.2.2.2.2.1 v.2.1 v.2.2.1 v.2.2.2.1 v.2.2.2.2.1 (fun o0_0 o0_1 o0_2 => K (.normal ⟨(us 8 [(.iv (.int .i64) o0_0), U, U, U, (.own 0), (.own 1), U, U, U, U, U, U, U, U, U, U, U, U, U, U, U, U, U, U, U, U, U, U, U, U, U, U, U, U, U, U, U, U, U, U, U, U, U, U, U, U, U, U, U, U, U, U, U, U, U, U, U, U, U, U, U, U, U, U, U, U, U, U, U, U, U, U, U, U, U, U, U, U, U, U, U, U, U, U, U, U, U, U, U, U, U, U, U, U, U, U, U, U, U, U, U, U, U, U, U, U, U, U, U, U, U, U, U, U, U, U, U, U, U, U, U, U, U, U]), [(.arr 3 (.int .i64) o0_1 false), (.arr 3 (.int .i64) o0_2 false)]⟩))
noncomputable def q'J (N : Nat) : Piece := (mkPiece 1431633920 p'J (g'J N))
noncomputable def q'K (N : Nat) : Piece := (mkPiece 5726601216 p'K (g'K N N))
noncomputable def q'L (N : Nat) : Piece := (mkPiece 357892096 p'L (g'L N N))
noncomputable def i'M (N : Nat) : Fi := { loans := 0, owns := true, results := [.tmp 4, .tmp 5], rtys := [23, 23], blks := [(2, q'K N), (0, q'L N)], regs := [(17, q'J N)], masks := [(0, 83951616), (2, 5726601216)] }
noncomputable def b'M : Code := match Tryz.f67.body with | some c => c | none => .skip
theorem e'J (v : p'J.V) (K : KO α) : runSeq env (ct14 N) (i'M N) 1431633920 (.seq (codeAt b'M [1, 1, 1, 1, 1, 1, 1, 1, 1, 0, 1, 0, 0, 1, 0, 0, 1, 1, 0, 0]) (codeAt b'M [1, 1, 1, 1, 1, 1, 1, 1, 1, 0, 1, 0, 0, 1, 0, 0, 1, 1, 0, 1])) (p'J.mk' v) K = g'J N v K := Eq.trans (b := z'J N @spec_l5Div_J17.b v K) (by kernel_rfl) (by unfold g'J; rw [spec_l5Div_J17.eq])
theorem o'J (N : Nat) : PieceOK gd P (i'M N) (.seq (codeAt b'M [1, 1, 1, 1, 1, 1, 1, 1, 1, 0, 1, 0, 0, 1, 0, 0, 1, 1, 0, 0]) (codeAt b'M [1, 1, 1, 1, 1, 1, 1, 1, 1, 0, 1, 0, 0, 1, 0, 0, 1, 1, 0, 1])) (mkPiece 1431633920 p'J (g'J N)) :=
  piece_seq hE hP (hct14 N) (AllOK.of (F := i'M N) (l := []) (by kernel_rfl) .nil) (AllOK.of (F := i'M N) (l := []) (by kernel_rfl) .nil) (e'J N)
theorem oq'J (N : Nat) : PieceOK gd P (i'M N) (.seq (codeAt b'M [1, 1, 1, 1, 1, 1, 1, 1, 1, 0, 1, 0, 0, 1, 0, 0, 1, 1, 0, 0]) (codeAt b'M [1, 1, 1, 1, 1, 1, 1, 1, 1, 0, 1, 0, 0, 1, 0, 0, 1, 1, 0, 1])) (q'J N) := (o'J N)
theorem e'K (n : Nat) (v : p'K.V) (K : KO α) : runRound env (ct14 N) (i'M N) 5726601216 (mkPiece 5726601216 p'K (g'K N n)).run (.block 2 (.loop (codeAt b'M [1, 1, 1, 1, 1, 1, 1, 1, 1, 0, 1, 0, 0, 1, 0, 0, 1, 1, 1, 1, 0, 0, 0]))) (p'K.mk' v) K = g'K N (n + 1) v K := Eq.trans (b := spec_l5Div_L2r N (fun y0 y1 y2 y3 y4 y5 y6 y7 y8 => spec_l5Div_L2 N n y0 y1 y2 y3 y4 y5 y6 y7 y8 (fun o0_0 o0_1 o0_2 o0_3 o0_4 o0_5 o0_6 o0_7 o0_8 => K (.normal ⟨(us 8 [(.iv (.int .i64) o0_0), (.own 0), (.own 1), (.iv (.int .i64) o0_1), (.own 2), (.own 3), (.iv (.int .i64) o0_2), (.iv (.int .i64) o0_3), (.own 4), U, U, U, U, U, U, U, U, U, U, U, U, U, U, U, U, U, U, U, U, U, U, U, U, U, U, U, U, U, U, U, U, U, U, U, U, U, U, U, U, U, U, U, U, U, U, U, U, U, U, U, U, U, U, U, U, U, U, U, U, U, U, U, U, U, U, U, U, U, U, U, U, U, U, U, U, U, U, U, U, U, U, U, U, U, U, U, U, U, U, U, U, U, U, U, U, U, U, U, U, U, U, U, U, U, U, U, U, U, U, U, U, U, U, U]), [(.arr 3 (.int .i64) o0_4 false), (.arr 3 (.int .i64) o0_5 false), (.arr 3 (.int .i64) o0_6 false), (.arr 3 (.int .i64) o0_7 false), (.arr 3 (.int .i64) o0_8 false)]⟩))) (fun o0_0 o0_1 o0_2 o0_3 o0_4 o0_5 o0_6 o0_7 o0_8 => K (.normal ⟨(us 8 [(.iv (.int .i64) o0_0), (.own 0), (.own 1), (.iv (.int .i64) o0_1), (.own 2), (.own 3), (.iv (.int .i64) o0_2), (.iv (.int .i64) o0_3), (.own 4), U, U, U, U, U, U, U, U, U, U, U, U, U, U, U, U, U, U, U, U, U, U, U, U, U, U, U, U, U, U, U, U, U, U, U, U, U, U, U, U, U, U, U, U, U, U, U, U, U, U, U, U, U, U, U, U, U, U, U, U, U, U, U, U, U, U, U, U, U, U, U, U, U, U, U, U, U, U, U, U, U, U, U, U, U, U, U, U, U, U, U, U, U, U, U, U, U, U, U, U, U, U, U, U, U, U, U, U, U, U, U, U, U, U, U]), [(.arr 3 (.int .i64) o0_4 false), (.arr 3 (.int .i64) o0_5 false), (.arr 3 (.int .i64) o0_6 false), (.arr 3 (.int .i64) o0_7 false), (.arr 3 (.int .i64) o0_8 false)]⟩)) v.1.2.2.2.2.2.2.2.2.1 v.1.2.2.2.2.2.2.2.2.2.2.2.1 v.1.2.2.2.2.2.2.2.2.2.2.2.2.2.2.1 v.1.2.2.2.2.2.2.2.2.2.2.2.2.2.2.2.1 v.2.1 v.2.2.1 v.2.2.2.1 v.2.2.2.2.1 v.2.2.2.2.2.1) (by kernel_rfl) (by unfold g'K; rw [spec_l5Div_L2.succ])
theorem o'K (N : Nat) : PieceOK gd P (i'M N) (.block 2 (.loop (codeAt b'M [1, 1, 1, 1, 1, 1, 1, 1, 1, 0, 1, 0, 0, 1, 0, 0, 1, 1, 1, 1, 0, 0, 0]))) (mkPiece 5726601216 p'K (g'K N N)) :=
  piece_loop hE hP (hct14 N) (AllOK.of (F := i'M N) (l := []) (by kernel_rfl) .nil) (fun n {_} => g'K N n) (fun _ _ => by unfold g'K; rw [spec_l5Div_L2.zero]) (fun n {_} v K => e'K N n v K) N
theorem oq'K (N : Nat) : PieceOK gd P (i'M N) (.block 2 (.loop (codeAt b'M [1, 1, 1, 1, 1, 1, 1, 1, 1, 0, 1, 0, 0, 1, 0, 0, 1, 1, 1, 1, 0, 0, 0]))) (q'K N) := (o'K N)
theorem e'L (n : Nat) (v : p'L.V) (K : KO α) : runRound env (ct14 N) (i'M N) 357892096 (mkPiece 357892096 p'L (g'L N n)).run (.block 0 (.loop (codeAt b'M [1, 1, 1, 1, 1, 1, 1, 1, 1, 0, 1, 0, 0]))) (p'L.mk' v) K = g'L N (n + 1) v K := Eq.trans (b := spec_l5Div_L0r N (fun y0 y1 y2 y3 y4 y5 y6 => spec_l5Div_L0 N n y0 y1 y2 y3 y4 y5 y6 (fun o0_0 o0_1 o0_2 => K (.normal ⟨(us 8 [(.iv (.int .i64) o0_0), U, U, U, (.own 0), (.own 1), U, U, U, U, U, U, U, U, U, U, U, U, U, U, U, U, U, U, U, U, U, U, U, U, U, U, U, U, U, U, U, U, U, U, U, U, U, U, U, U, U, U, U, U, U, U, U, U, U, U, U, U, U, U, U, U, U, U, U, U, U, U, U, U, U, U, U, U, U, U, U, U, U, U, U, U, U, U, U, U, U, U, U, U, U, U, U, U, U, U, U, U, U, U, U, U, U, U, U, U, U, U, U, U, U, U, U, U, U, U, U, U, U, U, U, U, U, U]), [(.arr 3 (.int .i64) o0_1 false), (.arr 3 (.int .i64) o0_2 false)]⟩))) (fun o0_0 o0_1 o0_2 => K (.normal ⟨(us 8 [(.iv (.int .i64) o0_0), U, U, U, (.own 0), (.own 1), U, U, U, U, U, U, U, U, U, U, U, U, U, U, U, U, U, U, U, U, U, U, U, U, U, U, U, U, U, U, U, U, U, U, U, U, U, U, U, U, U, U, U, U, U, U, U, U, U, U, U, U, U, U, U, U, U, U, U, U, U, U, U, U, U, U, U, U, U, U, U, U, U, U, U, U, U, U, U, U, U, U, U, U, U, U, U, U, U, U, U, U, U, U, U, U, U, U, U, U, U, U, U, U, U, U, U, U, U, U, U, U, U, U, U, U, U, U]), [(.arr 3 (.int .i64) o0_1 false), (.arr 3 (.int .i64) o0_2 false)]⟩)) v.1.2.2.2.2.2.2.2.2.1 v.1.2.2.2.2.2.2.2.2.2.2.2.1 v.1.2.2.2.2.2.2.2.2.2.2.2.2.2.2.1 v.2.1 v.2.2.1 v.2.2.2.1 v.2.2.2.2.1) (by kernel_rfl) (by unfold g'L; rw [spec_l5Div_L0.succ])
theorem o'L (N : Nat) : PieceOK gd P (i'M N) (.block 0 (.loop (codeAt b'M [1, 1, 1, 1, 1, 1, 1, 1, 1, 0, 1, 0, 0]))) (mkPiece 357892096 p'L (g'L N N)) :=
  piece_loop hE hP (hct14 N) (AllOK.of (F := i'M N) (l := [((.seq (codeAt b'M [1, 1, 1, 1, 1, 1, 1, 1, 1, 0, 1, 0, 0, 1, 0, 0, 1, 1, 0, 0]) (codeAt b'M [1, 1, 1, 1, 1, 1, 1, 1, 1, 0, 1, 0, 0, 1, 0, 0, 1, 1, 0, 1])), q'J N), ((.block 2 (.loop (codeAt b'M [1, 1, 1, 1, 1, 1, 1, 1, 1, 0, 1, 0, 0, 1, 0, 0, 1, 1, 1, 1, 0, 0, 0]))), q'K N)]) (by kernel_rfl) (.cons (oq'J N) (.cons (oq'K N) .nil))) (fun n {_} => g'L N n) (fun _ _ => by unfold g'L; rw [spec_l5Div_L0.zero]) (fun n {_} v K => e'L N n v K) N
theorem oq'L (N : Nat) : PieceOK gd P (i'M N) (.block 0 (.loop (codeAt b'M [1, 1, 1, 1, 1, 1, 1, 1, 1, 0, 1, 0, 0]))) (q'L N) := (o'L N)
noncomputable def p'M : Pt := ⟨[(.i (.sl (.int .i64))), (.i (.sl (.int .i64)))], []⟩
noncomputable def z'M (F : type_of% @spec_l5Div) (v : p'M.V) (K : KF α) : Option α := F N v.1.1 v.1.2.1 (fun o0_0 o0_1 => K (.tuple [(.own 0), (.own 1)]) [(.arr 3 (.int .i64) o0_0 false), (.arr 3 (.int .i64) o0_1 false)])
noncomputable def g'M (v : p'M.V) (K : KF α) : Option α := z'M N @spec_l5Div v K
theorem e'M (v : p'M.V) (K : KF α) : runFn env (ct14 N) (i'M N) Tryz.f67 (SP.mkL p'M.slots v.1) (BP.mkL p'M.store v.2) K = g'M N v K := Eq.trans (b := z'M N @spec_l5Div.b v K) (by kernel_rfl) (by unfold g'M; rw [spec_l5Div.eq])
theorem o'M (N : Nat) : CalleeOK gd P 67 (mkCallee false p'M (g'M N)) :=
  callee_ok fun v K h => fn_snd hE hP (hct14 N) Tryz.func67 (by kernel_rfl) (body := b'M) (by kernel_rfl) (by kernel_rfl) (AllOK.of (F := i'M N) (l := [((.block 0 (.loop (codeAt b'M [1, 1, 1, 1, 1, 1, 1, 1, 1, 0, 1, 0, 0]))), q'L N)]) (by kernel_rfl) (.cons (oq'L N) .nil)) (loans := BP.mkL p'M.store v.2) rfl ((e'M N v K).trans h)
noncomputable def ct15 (N : Nat) : CT := (67, (mkCallee false p'M (g'M N))) :: ct14 N
theorem hct15 (N : Nat) : CTOK gd P (ct15 N) := .cons (o'M N) (hct14 N)

noncomputable def p'N : Pt := ⟨[.u, .u, .u, .u, .u, (.o 0), (.o 1), .u, .u, .u, .u, .u, .u, .u, .u, .u, .u, .u, .u, .u, .u, .u, .u, .u, .u], [(.arr 3 (.int .i64) false), (.arr 3 (.int .i64) false)]⟩
noncomputable def g'N (n : Nat) (v : p'N.V) (K : KO α) : Option α := spec_l5Gcd_L0 N n v.2.1 v.2.2.1 (fun o0_0 => K (.normal ⟨(us 5 [(.own 0), U, U, U, U, U, U, U, U, U, U, U, U, U, U, U, U, U, U, U]), [(.arr 3 (.int .i64) o0_0 false)]⟩))
noncomputable def q'N (N : Nat) : Piece := (mkPiece 5120 p'N (g'N N N))
noncomputable def i'O (N : Nat) : Fi := { loans := 0, owns := true, results := [.tmp 4], rtys := [23], blks := [(0, q'N N)], regs := [], masks := [(0, 1024)] }
noncomputable def b'O : Code := match Tryz.f30.body with | some c => c | none => .skip
theorem e'N (n : Nat) (v : p'N.V) (K : KO α) : runRound env (ct15 N) (i'O N) 5120 (mkPiece 5120 p'N (g'N N n)).run (.block 0 (.loop (codeAt b'O [1, 1, 1, 0, 0, 0]))) (p'N.mk' v) K = g'N N (n + 1) v K := Eq.trans (b := spec_l5Gcd_L0r N (fun y0 y1 => spec_l5Gcd_L0 N n y0 y1 (fun o0_0 => K (.normal ⟨(us 5 [(.own 0), U, U, U, U, U, U, U, U, U, U, U, U, U, U, U, U, U, U, U]), [(.arr 3 (.int .i64) o0_0 false)]⟩))) (fun o0_0 => K (.normal ⟨(us 5 [(.own 0), U, U, U, U, U, U, U, U, U, U, U, U, U, U, U, U, U, U, U]), [(.arr 3 (.int .i64) o0_0 false)]⟩)) v.2.1 v.2.2.1) (by kernel_rfl) (by unfold g'N; rw [spec_l5Gcd_L0.succ])
theorem o'N (N : Nat) : PieceOK gd P (i'O N) (.block 0 (.loop (codeAt b'O [1, 1, 1, 0, 0, 0]))) (mkPiece 5120 p'N (g'N N N)) :=
  piece_loop hE hP (hct15 N) (AllOK.of (F := i'O N) (l := []) (by kernel_rfl) .nil) (fun n {_} => g'N N n) (fun _ _ => by unfold g'N; rw [spec_l5Gcd_L0.zero]) (fun n {_} v K => e'N N n v K) N
theorem oq'N (N : Nat) : PieceOK gd P (i'O N) (.block 0 (.loop (codeAt b'O [1, 1, 1, 0, 0, 0]))) (q'N N) := (o'N N)
noncomputable def p'O : Pt := ⟨[(.i (.sl (.int .i64))), (.i (.sl (.int .i64)))], []⟩
noncomputable def z'O (F : type_of% @spec_l5Gcd) (v : p'O.V) (K : KF α) : Option α := F N v.1.1 v.1.2.1 (fun o0_0 => K (.own 0) [(.arr 3 (.int .i64) o0_0 false)])
noncomputable def g'O (v : p'O.V) (K : KF α) : Option α := z'O N @spec_l5Gcd v K
theorem e'O (v : p'O.V) (K : KF α) : runFn env (ct15 N) (i'O N) Tryz.f30 (SP.mkL p'O.slots v.1) (BP.mkL p'O.store v.2) K = g'O N v K := Eq.trans (b := z'O N @spec_l5Gcd.b v K) (by kernel_rfl) (by unfold g'O; rw [spec_l5Gcd.eq])
theorem o'O (N : Nat) : CalleeOK gd P 30 (mkCallee false p'O (g'O N)) :=
  callee_ok fun v K h => fn_snd hE hP (hct15 N) Tryz.func30 (by kernel_rfl) (body := b'O) (by kernel_rfl) (by kernel_rfl) (AllOK.of (F := i'O N) (l := [((.block 0 (.loop (codeAt b'O [1, 1, 1, 0, 0, 0]))), q'N N)]) (by kernel_rfl) (.cons (oq'N N) .nil)) (loans := BP.mkL p'O.store v.2) rfl ((e'O N v K).trans h)
noncomputable def ct16 (N : Nat) : CT := (30, (mkCallee false p'O (g'O N))) :: ct15 N
theorem hct16 (N : Nat) : CTOK gd P (ct16 N) := .cons (o'O N) (hct15 N)

noncomputable def i'P (N : Nat) : Fi := { loans := 0, owns := true, results := [.cell 6 25, .tmp 7], rtys := [25, 4], blks := [], regs := [], masks := [] }
noncomputable def b'P : Code := match Tryz.f48.body with | some c => c | none => .skip
noncomputable def p'P : Pt := ⟨[(.i .bool), (.i (.sl (.int .i64))), (.i (.sl (.int .i64)))], []⟩
noncomputable def z'P (F : type_of% @spec_l6Make) (v : p'P.V) (K : KF α) : Option α := F N v.1.1 v.1.2.1 v.1.2.2.1 (fun o0_0 o0_1 o0_2 o0_3 => K (.tuple [(.agg [(.iv .bool o0_0), (.own 0), (.own 1)]), (.iv .bool o0_1)]) [(.arr 3 (.int .i64) o0_2 false), (.arr 3 (.int .i64) o0_3 false)])
noncomputable def g'P (v : p'P.V) (K : KF α) : Option α := z'P N @spec_l6Make v K
theorem e'P (v : p'P.V) (K : KF α) : runFn env (ct16 N) (i'P N) Tryz.f48 (SP.mkL p'P.slots v.1) (BP.mkL p'P.store v.2) K = g'P N v K := Eq.trans (b := z'P N @spec_l6Make.b v K) (by kernel_rfl) (by unfold g'P; rw [spec_l6Make.eq])
theorem o'P (N : Nat) : CalleeOK gd P 48 (mkCallee false p'P (g'P N)) :=
  callee_ok fun v K h => fn_snd hE hP (hct16 N) Tryz.func48 (by kernel_rfl) (body := b'P) (by kernel_rfl) (by kernel_rfl) (AllOK.of (F := i'P N) (l := []) (by kernel_rfl) .nil) (loans := BP.mkL p'P.store v.2) rfl ((e'P N v K).trans h)
noncomputable def ct17 (N : Nat) : CT := (48, (mkCallee false p'P (g'P N))) :: ct16 N
theorem hct17 (N : Nat) : CTOK gd P (ct17 N) := .cons (o'P N) (hct16 N)

noncomputable def p'Q : Pt := ⟨[.u, .u, (.p 0 [] 0), .u, (.i .str), (.i (.int .i64)), (.i (.int .i64)), .u, (.o 1), (.i (.int .i64)), .u, .u, .u, .u, .u, .u, .u, .u, .u, .u, .u, .u, .u, .u, .u, .u, .u, .u, .u, .u, .u, .u, .u, .u, .u, .u, .u, .u, .u, .u, .u, .u, .u, .u, .u, .u, .u, .u, .u, .u, .u, .u, .u, .u, .u, .u], [(.box 25 (.a [(.i .bool), (.o 2), (.o 3)]) false), (.arr 3 (.int .i64) false), (.arr 3 (.int .i64) false), (.arr 3 (.int .i64) false)]⟩
noncomputable def g'Q (n : Nat) (v : p'Q.V) (K : KO α) : Option α := spec_DecFrac_L0 N n v.1.2.2.2.2.1 v.1.2.2.2.2.2.1 v.1.2.2.2.2.2.2.1 v.1.2.2.2.2.2.2.2.2.2.1 v.2.1.1 v.2.2.1 v.2.2.2.1 v.2.2.2.2.1 (fun o0_0 o0_1 o0_2 o0_3 o0_4 o0_5 => K (.normal ⟨[U, U, (.lp 0 [] 0), U, U, (.iv (.int .i64) o0_0), (.iv (.int .i64) o0_1), U, (.own 1), U, U, U, U, U, U, U, U, U, U, U, U, U, U, U, U, U, U, U, U, U, U, U, U, U, U, U, U, U, U, U, U, U, U, U, U, U, U, U, U, U, U, U, U, U, U, U], [(.box 25 (.agg [(.iv .bool o0_2), (.own 2), (.own 3)]) false), (.arr 3 (.int .i64) o0_3 false), (.arr 3 (.int .i64) o0_4 false), (.arr 3 (.int .i64) o0_5 false)]⟩))
noncomputable def q'Q (N : Nat) : Piece := (mkPiece 333072 p'Q (g'Q N N))
noncomputable def i'R (N : Nat) : Fi := { loans := 0, owns := true, results := [.cell 2 25, .tmp 3], rtys := [25, 4], blks := [(0, q'Q N)], regs := [], masks := [(0, 70672)] }
noncomputable def b'R : Code := match Tryz.f17.body with | some c => c | none => .skip
theorem e'Q (n : Nat) (v : p'Q.V) (K : KO α) : runRound env (ct17 N) (i'R N) 333072 (mkPiece 333072 p'Q (g'Q N n)).run (.block 0 (.loop (codeAt b'R [1, 1, 1, 1, 0, 1, 0, 0]))) (p'Q.mk' v) K = g'Q N (n + 1) v K := Eq.trans (b := spec_DecFrac_L0r N (fun y0 y1 y2 y3 y4 y5 y6 y7 => spec_DecFrac_L0 N n y0 y1 y2 y3 y4 y5 y6 y7 (fun o0_0 o0_1 o0_2 o0_3 o0_4 o0_5 => K (.normal ⟨[U, U, (.lp 0 [] 0), U, U, (.iv (.int .i64) o0_0), (.iv (.int .i64) o0_1), U, (.own 1), U, U, U, U, U, U, U, U, U, U, U, U, U, U, U, U, U, U, U, U, U, U, U, U, U, U, U, U, U, U, U, U, U, U, U, U, U, U, U, U, U, U, U, U, U, U, U], [(.box 25 (.agg [(.iv .bool o0_2), (.own 2), (.own 3)]) false), (.arr 3 (.int .i64) o0_3 false), (.arr 3 (.int .i64) o0_4 false), (.arr 3 (.int .i64) o0_5 false)]⟩))) (fun o0_0 o0_1 o0_2 o0_3 o0_4 o0_5 => K (.normal ⟨[U, U, (.lp 0 [] 0), U, U, (.iv (.int .i64) o0_0), (.iv (.int .i64) o0_1), U, (.own 1), U, U, U, U, U, U, U, U, U, U, U, U, U, U, U, U, U, U, U, U, U, U, U, U, U, U, U, U, U, U, U, U, U, U, U, U, U, U, U, U, U, U, U, U, U, U, U], [(.box 25 (.agg [(.iv .bool o0_2), (.own 2), (.own 3)]) false), (.arr 3 (.int .i64) o0_3 false), (.arr 3 (.int .i64) o0_4 false), (.arr 3 (.int .i64) o0_5 false)]⟩)) v.1.2.2.2.2.1 v.1.2.2.2.2.2.1 v.1.2.2.2.2.2.2.1 v.1.2.2.2.2.2.2.2.2.2.1 v.2.1.1 v.2.2.1 v.2.2.2.1 v.2.2.2.2.1) (by kernel_rfl) (by unfold g'Q; rw [spec_DecFrac_L0.succ])
theorem o'Q (N : Nat) : PieceOK gd P (i'R N) (.block 0 (.loop (codeAt b'R [1, 1, 1, 1, 0, 1, 0, 0]))) (mkPiece 333072 p'Q (g'Q N N)) :=
  piece_loop hE hP (hct17 N) (AllOK.of (F := i'R N) (l := []) (by kernel_rfl) .nil) (fun n {_} => g'Q N n) (fun _ _ => by unfold g'Q; rw [spec_DecFrac_L0.zero]) (fun n {_} v K => e'Q N n v K) N
theorem oq'Q (N : Nat) : PieceOK gd P (i'R N) (.block 0 (.loop (codeAt b'R [1, 1, 1, 1, 0, 1, 0, 0]))) (q'Q N) := (o'Q N)
noncomputable def p'R : Pt := ⟨[(.i .str)], []⟩
noncomputable def z'R (F : type_of% @spec_DecFrac) (v : p'R.V) (K : KF α) : Option α := F N v.1.1 (fun o0_0 o0_1 o0_2 o0_3 => K (.tuple [(.agg [(.iv .bool o0_0), (.own 0), (.own 1)]), (.iv .bool o0_1)]) [(.arr 3 (.int .i64) o0_2 false), (.arr 3 (.int .i64) o0_3 false)])
noncomputable def g'R (v : p'R.V) (K : KF α) : Option α := z'R N @spec_DecFrac v K
theorem e'R (v : p'R.V) (K : KF α) : runFn env (ct17 N) (i'R N) Tryz.f17 (SP.mkL p'R.slots v.1) (BP.mkL p'R.store v.2) K = g'R N v K := Eq.trans (b := z'R N @spec_DecFrac.b v K) (by kernel_rfl) (by unfold g'R; rw [spec_DecFrac.eq])
theorem o'R (N : Nat) : CalleeOK gd P 17 (mkCallee false p'R (g'R N)) :=
  callee_ok fun v K h => fn_snd hE hP (hct17 N) Tryz.func17 (by kernel_rfl) (body := b'R) (by kernel_rfl) (by kernel_rfl) (AllOK.of (F := i'R N) (l := [((.block 0 (.loop (codeAt b'R [1, 1, 1, 1, 0, 1, 0, 0]))), q'Q N)]) (by kernel_rfl) (.cons (oq'Q N) .nil)) (loans := BP.mkL p'R.store v.2) rfl ((e'R N v K).trans h)
noncomputable def ct18 (N : Nat) : CT := (17, (mkCallee false p'R (g'R N))) :: ct17 N
theorem hct18 (N : Nat) : CTOK gd P (ct18 N) := .cons (o'R N) (hct17 N)

noncomputable def i'S (N : Nat) : Fi := { loans := 0, owns := true, results := [.tmp 2], rtys := [4], blks := [], regs := [], masks := [] }
noncomputable def b'S : Code := match Tryz.f96.body with | some c => c | none => .skip
noncomputable def p'S : Pt := ⟨[(.i (.int .i64))], []⟩
noncomputable def z'S (F : type_of% @spec_l1Width) (v : p'S.V) (K : KF α) : Option α := F N v.1.1 (fun o0_0 => K (.iv .bool o0_0) [])
noncomputable def g'S (v : p'S.V) (K : KF α) : Option α := z'S N @spec_l1Width v K
theorem e'S (v : p'S.V) (K : KF α) : runFn env (ct18 N) (i'S N) Tryz.f96 (SP.mkL p'S.slots v.1) (BP.mkL p'S.store v.2) K = g'S N v K := Eq.trans (b := z'S N @spec_l1Width.b v K) (by kernel_rfl) (by unfold g'S; rw [spec_l1Width.eq])
theorem o'S (N : Nat) : CalleeOK gd P 96 (mkCallee false p'S (g'S N)) :=
  callee_ok fun v K h => fn_snd hE hP (hct18 N) Tryz.func96 (by kernel_rfl) (body := b'S) (by kernel_rfl) (by kernel_rfl) (AllOK.of (F := i'S N) (l := []) (by kernel_rfl) .nil) (loans := BP.mkL p'S.store v.2) rfl ((e'S N v K).trans h)
noncomputable def ct19 (N : Nat) : CT := (96, (mkCallee false p'S (g'S N))) :: ct18 N
theorem hct19 (N : Nat) : CTOK gd P (ct19 N) := .cons (o'S N) (hct18 N)

noncomputable def p'T : Pt := ⟨[(.i (.sl (.int .i64))), .u, .u, (.i (.int .i64)), .u, .u, .u, .u, .u, .u, .u, .u, .u, .u, .u, .u, .u, .u, .u, .u, .u, .u, .u, .u, .u, .u, .u, .u, .u, .u, .u, .u, .u, .u, .u, .u, .u], []⟩
noncomputable def g'T (n : Nat) (v : p'T.V) (K : KO α) : Option α := spec_NatOk_L0 N n v.1.1 v.1.2.2.2.1 (fun o0_0 => K (.ret (.iv .bool o0_0) [])) (fun o1_0 => K (.normal ⟨[(.iv (.sl (.int .i64)) o1_0), U, U, U, U, U, U, U, U, U, U, U, U, U, U, U, U, U, U, U, U, U, U, U, U, U, U, U, U, U, U, U, U, U, U, U, U], []⟩))
noncomputable def q'T (N : Nat) : Piece := (mkPiece 65 p'T (g'T N N))
noncomputable def i'U (N : Nat) : Fi := { loans := 0, owns := true, results := [.tmp 2], rtys := [4], blks := [(0, q'T N)], regs := [], masks := [(0, 1)] }
noncomputable def b'U : Code := match Tryz.f28.body with | some c => c | none => .skip
theorem e'T (n : Nat) (v : p'T.V) (K : KO α) : runRound env (ct19 N) (i'U N) 65 (mkPiece 65 p'T (g'T N n)).run (.block 0 (.loop (codeAt b'U [1, 1, 0, 1, 0, 0]))) (p'T.mk' v) K = g'T N (n + 1) v K := Eq.trans (b := spec_NatOk_L0r N (fun y0 y1 => spec_NatOk_L0 N n y0 y1 (fun o0_0 => K (.ret (.iv .bool o0_0) [])) (fun o1_0 => K (.normal ⟨[(.iv (.sl (.int .i64)) o1_0), U, U, U, U, U, U, U, U, U, U, U, U, U, U, U, U, U, U, U, U, U, U, U, U, U, U, U, U, U, U, U, U, U, U, U, U], []⟩))) (fun o0_0 => K (.ret (.iv .bool o0_0) [])) (fun o1_0 => K (.normal ⟨[(.iv (.sl (.int .i64)) o1_0), U, U, U, U, U, U, U, U, U, U, U, U, U, U, U, U, U, U, U, U, U, U, U, U, U, U, U, U, U, U, U, U, U, U, U, U], []⟩)) v.1.1 v.1.2.2.2.1) (by kernel_rfl) (by unfold g'T; rw [spec_NatOk_L0.succ])
theorem o'T (N : Nat) : PieceOK gd P (i'U N) (.block 0 (.loop (codeAt b'U [1, 1, 0, 1, 0, 0]))) (mkPiece 65 p'T (g'T N N)) :=
  piece_loop hE hP (hct19 N) (AllOK.of (F := i'U N) (l := []) (by kernel_rfl) .nil) (fun n {_} => g'T N n) (fun _ _ => by unfold g'T; rw [spec_NatOk_L0.zero]) (fun n {_} v K => e'T N n v K) N
theorem oq'T (N : Nat) : PieceOK gd P (i'U N) (.block 0 (.loop (codeAt b'U [1, 1, 0, 1, 0, 0]))) (q'T N) := (o'T N)
noncomputable def p'U : Pt := ⟨[(.i (.sl (.int .i64)))], []⟩
noncomputable def z'U (F : type_of% @spec_NatOk) (v : p'U.V) (K : KF α) : Option α := F N v.1.1 (fun o0_0 => K (.iv .bool o0_0) [])
noncomputable def g'U (v : p'U.V) (K : KF α) : Option α := z'U N @spec_NatOk v K
theorem e'U (v : p'U.V) (K : KF α) : runFn env (ct19 N) (i'U N) Tryz.f28 (SP.mkL p'U.slots v.1) (BP.mkL p'U.store v.2) K = g'U N v K := Eq.trans (b := z'U N @spec_NatOk.b v K) (by kernel_rfl) (by unfold g'U; rw [spec_NatOk.eq])
theorem o'U (N : Nat) : CalleeOK gd P 28 (mkCallee false p'U (g'U N)) :=
  callee_ok fun v K h => fn_snd hE hP (hct19 N) Tryz.func28 (by kernel_rfl) (body := b'U) (by kernel_rfl) (by kernel_rfl) (AllOK.of (F := i'U N) (l := [((.block 0 (.loop (codeAt b'U [1, 1, 0, 1, 0, 0]))), q'T N)]) (by kernel_rfl) (.cons (oq'T N) .nil)) (loans := BP.mkL p'U.store v.2) rfl ((e'U N v K).trans h)
noncomputable def ct20 (N : Nat) : CT := (28, (mkCallee false p'U (g'U N))) :: ct19 N
theorem hct20 (N : Nat) : CTOK gd P (ct20 N) := .cons (o'U N) (hct19 N)

noncomputable def i'V (N : Nat) : Fi := { loans := 0, owns := true, results := [.tmp 2], rtys := [4], blks := [], regs := [], masks := [] }
noncomputable def b'V : Code := match Tryz.f29.body with | some c => c | none => .skip
noncomputable def p'V : Pt := ⟨[(.i (.sl (.int .i64)))], []⟩
noncomputable def z'V (F : type_of% @spec_l6One) (v : p'V.V) (K : KF α) : Option α := F N v.1.1 (fun o0_0 => K (.iv .bool o0_0) [])
noncomputable def g'V (v : p'V.V) (K : KF α) : Option α := z'V N @spec_l6One v K
theorem e'V (v : p'V.V) (K : KF α) : runFn env (ct20 N) (i'V N) Tryz.f29 (SP.mkL p'V.slots v.1) (BP.mkL p'V.store v.2) K = g'V N v K := Eq.trans (b := z'V N @spec_l6One.b v K) (by kernel_rfl) (by unfold g'V; rw [spec_l6One.eq])
theorem o'V (N : Nat) : CalleeOK gd P 29 (mkCallee false p'V (g'V N)) :=
  callee_ok fun v K h => fn_snd hE hP (hct20 N) Tryz.func29 (by kernel_rfl) (body := b'V) (by kernel_rfl) (by kernel_rfl) (AllOK.of (F := i'V N) (l := []) (by kernel_rfl) .nil) (loans := BP.mkL p'V.store v.2) rfl ((e'V N v K).trans h)
noncomputable def ct21 (N : Nat) : CT := (29, (mkCallee false p'V (g'V N))) :: ct20 N
theorem hct21 (N : Nat) : CTOK gd P (ct21 N) := .cons (o'V N) (hct20 N)

noncomputable def i'W (N : Nat) : Fi := { loans := 0, owns := true, results := [.tmp 2], rtys := [4], blks := [], regs := [], masks := [] }
noncomputable def b'W : Code := match Tryz.f8.body with | some c => c | none => .skip
noncomputable def p'W : Pt := ⟨[(.i (.pair .bool (.pair (.sl (.int .i64)) (.pair (.sl (.int .i64)) .unit))))], []⟩
noncomputable def z'W (F : type_of% @spec_FracOk) (v : p'W.V) (K : KF α) : Option α := F N v.1.1 (fun o0_0 => K (.iv .bool o0_0) [])
noncomputable def g'W (v : p'W.V) (K : KF α) : Option α := z'W N @spec_FracOk v K
theorem e'W (v : p'W.V) (K : KF α) : runFn env (ct21 N) (i'W N) Tryz.f8 (SP.mkL p'W.slots v.1) (BP.mkL p'W.store v.2) K = g'W N v K := Eq.trans (b := z'W N @spec_FracOk.b v K) (by kernel_rfl) (by unfold g'W; rw [spec_FracOk.eq])
theorem o'W (N : Nat) : CalleeOK gd P 8 (mkCallee false p'W (g'W N)) :=
  callee_ok fun v K h => fn_snd hE hP (hct21 N) Tryz.func8 (by kernel_rfl) (body := b'W) (by kernel_rfl) (by kernel_rfl) (AllOK.of (F := i'W N) (l := []) (by kernel_rfl) .nil) (loans := BP.mkL p'W.store v.2) rfl ((e'W N v K).trans h)
noncomputable def ct22 (N : Nat) : CT := (8, (mkCallee false p'W (g'W N))) :: ct21 N
theorem hct22 (N : Nat) : CTOK gd P (ct22 N) := .cons (o'W N) (hct21 N)

noncomputable def i'X (N : Nat) : Fi := { loans := 0, owns := true, results := [.cell 2 122], rtys := [122], blks := [], regs := [], masks := [] }
noncomputable def b'X : Code := match Tryz.f98.body with | some c => c | none => .skip
noncomputable def p'X : Pt := ⟨[(.i (.pair .bool (.pair (.sl (.int .i64)) (.pair (.sl (.int .i64)) .unit))))], []⟩
noncomputable def z'X (F : type_of% @spec_l8Frac) (v : p'X.V) (K : KF α) : Option α := F N v.1.1 (fun o0_0 => K (.iv (.pair .bool (.pair (.sl (.int .i64)) (.pair (.sl (.int .i64)) .unit))) o0_0) [])
noncomputable def g'X (v : p'X.V) (K : KF α) : Option α := z'X N @spec_l8Frac v K
theorem e'X (v : p'X.V) (K : KF α) : runFn env (ct22 N) (i'X N) Tryz.f98 (SP.mkL p'X.slots v.1) (BP.mkL p'X.store v.2) K = g'X N v K := Eq.trans (b := z'X N @spec_l8Frac.b v K) (by kernel_rfl) (by unfold g'X; rw [spec_l8Frac.eq])
theorem o'X (N : Nat) : CalleeOK gd P 98 (mkCallee false p'X (g'X N)) :=
  callee_ok fun v K h => fn_snd hE hP (hct22 N) Tryz.func98 (by kernel_rfl) (body := b'X) (by kernel_rfl) (by kernel_rfl) (AllOK.of (F := i'X N) (l := []) (by kernel_rfl) .nil) (loans := BP.mkL p'X.store v.2) rfl ((e'X N v K).trans h)
noncomputable def ct23 (N : Nat) : CT := (98, (mkCallee false p'X (g'X N))) :: ct22 N
theorem hct23 (N : Nat) : CTOK gd P (ct23 N) := .cons (o'X N) (hct22 N)

noncomputable def i'Y (N : Nat) : Fi := { loans := 0, owns := true, results := [.tmp 2], rtys := [3], blks := [], regs := [], masks := [] }
noncomputable def b'Y : Code := match Tryz.f159.body with | some c => c | none => .skip
noncomputable def p'Y : Pt := ⟨[(.i (.int .i64))], []⟩
noncomputable def z'Y (F : type_of% @spec_l1Frac) (v : p'Y.V) (K : KF α) : Option α := F N v.1.1 (fun o0_0 => K (.iv (.int .i64) o0_0) [])
noncomputable def g'Y (v : p'Y.V) (K : KF α) : Option α := z'Y N @spec_l1Frac v K
theorem e'Y (v : p'Y.V) (K : KF α) : runFn env (ct23 N) (i'Y N) Tryz.f159 (SP.mkL p'Y.slots v.1) (BP.mkL p'Y.store v.2) K = g'Y N v K := Eq.trans (b := z'Y N @spec_l1Frac.b v K) (by kernel_rfl) (by unfold g'Y; rw [spec_l1Frac.eq])
theorem o'Y (N : Nat) : CalleeOK gd P 159 (mkCallee false p'Y (g'Y N)) :=
  callee_ok fun v K h => fn_snd hE hP (hct23 N) Tryz.func159 (by kernel_rfl) (body := b'Y) (by kernel_rfl) (by kernel_rfl) (AllOK.of (F := i'Y N) (l := []) (by kernel_rfl) .nil) (loans := BP.mkL p'Y.store v.2) rfl ((e'Y N v K).trans h)
noncomputable def ct24 (N : Nat) : CT := (159, (mkCallee false p'Y (g'Y N))) :: ct23 N
theorem hct24 (N : Nat) : CTOK gd P (ct24 N) := .cons (o'Y N) (hct23 N)

noncomputable def p'Z : Pt := ⟨[.u, .u, .u, (.i (.int .i64)), (.i (.int .i64)), .u, .u, .u, .u, .u, .u, .u, .u, .u, .u, .u, .u, .u, .u, .u, .u, .u, .u, .u, .u], []⟩
noncomputable def g'Z (n : Nat) (v : p'Z.V) (K : KO α) : Option α := spec_l5Bits_L0 N n v.1.2.2.2.1 v.1.2.2.2.2.1 (fun o0_0 => K (.normal ⟨[U, U, U, (.iv (.int .i64) o0_0), U, U, U, U, U, U, U, U, U, U, U, U, U, U, U, U, U, U, U, U, U], []⟩))
noncomputable def q'Z (N : Nat) : Piece := (mkPiece 320 p'Z (g'Z N N))
noncomputable def i'0 (N : Nat) : Fi := { loans := 0, owns := true, results := [.tmp 2], rtys := [3], blks := [(0, q'Z N)], regs := [], masks := [(0, 64)] }
noncomputable def b'0 : Code := match Tryz.f160.body with | some c => c | none => .skip
theorem e'Z (n : Nat) (v : p'Z.V) (K : KO α) : runRound env (ct24 N) (i'0 N) 320 (mkPiece 320 p'Z (g'Z N n)).run (.block 0 (.loop (codeAt b'0 [1, 1, 1, 0, 1, 0, 0]))) (p'Z.mk' v) K = g'Z N (n + 1) v K := Eq.trans (b := spec_l5Bits_L0r N (fun y0 y1 => spec_l5Bits_L0 N n y0 y1 (fun o0_0 => K (.normal ⟨[U, U, U, (.iv (.int .i64) o0_0), U, U, U, U, U, U, U, U, U, U, U, U, U, U, U, U, U, U, U, U, U], []⟩))) (fun o0_0 => K (.normal ⟨[U, U, U, (.iv (.int .i64) o0_0), U, U, U, U, U, U, U, U, U, U, U, U, U, U, U, U, U, U, U, U, U], []⟩)) v.1.2.2.2.1 v.1.2.2.2.2.1) (by kernel_rfl) (by unfold g'Z; rw [spec_l5Bits_L0.succ])
theorem o'Z (N : Nat) : PieceOK gd P (i'0 N) (.block 0 (.loop (codeAt b'0 [1, 1, 1, 0, 1, 0, 0]))) (mkPiece 320 p'Z (g'Z N N)) :=
  piece_loop hE hP (hct24 N) (AllOK.of (F := i'0 N) (l := []) (by kernel_rfl) .nil) (fun n {_} => g'Z N n) (fun _ _ => by unfold g'Z; rw [spec_l5Bits_L0.zero]) (fun n {_} v K => e'Z N n v K) N
theorem oq'Z (N : Nat) : PieceOK gd P (i'0 N) (.block 0 (.loop (codeAt b'0 [1, 1, 1, 0, 1, 0, 0]))) (q'Z N) := (o'Z N)
noncomputable def p'0 : Pt := ⟨[(.i (.sl (.int .i64)))], []⟩
noncomputable def z'0 (F : type_of% @spec_l5Bits) (v : p'0.V) (K : KF α) : Option α := F N v.1.1 (fun o0_0 => K (.iv (.int .i64) o0_0) [])
noncomputable def g'0 (v : p'0.V) (K : KF α) : Option α := z'0 N @spec_l5Bits v K
theorem e'0 (v : p'0.V) (K : KF α) : runFn env (ct24 N) (i'0 N) Tryz.f160 (SP.mkL p'0.slots v.1) (BP.mkL p'0.store v.2) K = g'0 N v K := Eq.trans (b := z'0 N @spec_l5Bits.b v K) (by kernel_rfl) (by unfold g'0; rw [spec_l5Bits.eq])
theorem o'0 (N : Nat) : CalleeOK gd P 160 (mkCallee false p'0 (g'0 N)) :=
  callee_ok fun v K h => fn_snd hE hP (hct24 N) Tryz.func160 (by kernel_rfl) (body := b'0) (by kernel_rfl) (by kernel_rfl) (AllOK.of (F := i'0 N) (l := [((.block 0 (.loop (codeAt b'0 [1, 1, 1, 0, 1, 0, 0]))), q'Z N)]) (by kernel_rfl) (.cons (oq'Z N) .nil)) (loans := BP.mkL p'0.store v.2) rfl ((e'0 N v K).trans h)
noncomputable def ct25 (N : Nat) : CT := (160, (mkCallee false p'0 (g'0 N))) :: ct24 N
theorem hct25 (N : Nat) : CTOK gd P (ct25 N) := .cons (o'0 N) (hct24 N)

noncomputable def i'1 (N : Nat) : Fi := { loans := 0, owns := true, results := [.tmp 2], rtys := [3], blks := [], regs := [], masks := [] }
noncomputable def b'1 : Code := match Tryz.f161.body with | some c => c | none => .skip
noncomputable def p'1 : Pt := ⟨[(.i (.int .i64))], []⟩
noncomputable def z'1 (F : type_of% @spec_l1Least) (v : p'1.V) (K : KF α) : Option α := F N v.1.1 (fun o0_0 => K (.iv (.int .i64) o0_0) [])
noncomputable def g'1 (v : p'1.V) (K : KF α) : Option α := z'1 N @spec_l1Least v K
theorem e'1 (v : p'1.V) (K : KF α) : runFn env (ct25 N) (i'1 N) Tryz.f161 (SP.mkL p'1.slots v.1) (BP.mkL p'1.store v.2) K = g'1 N v K := Eq.trans (b := z'1 N @spec_l1Least.b v K) (by kernel_rfl) (by unfold g'1; rw [spec_l1Least.eq])
theorem o'1 (N : Nat) : CalleeOK gd P 161 (mkCallee false p'1 (g'1 N)) :=
  callee_ok fun v K h => fn_snd hE hP (hct25 N) Tryz.func161 (by kernel_rfl) (body := b'1) (by kernel_rfl) (by kernel_rfl) (AllOK.of (F := i'1 N) (l := []) (by kernel_rfl) .nil) (loans := BP.mkL p'1.store v.2) rfl ((e'1 N v K).trans h)
noncomputable def ct26 (N : Nat) : CT := (161, (mkCallee false p'1 (g'1 N))) :: ct25 N
theorem hct26 (N : Nat) : CTOK gd P (ct26 N) := .cons (o'1 N) (hct25 N)

noncomputable def i'2 (N : Nat) : Fi := { loans := 0, owns := true, results := [.tmp 2], rtys := [23], blks := [], regs := [], masks := [] }
noncomputable def b'2 : Code := match Tryz.f129.body with | some c => c | none => .skip
noncomputable def p'2 : Pt := ⟨[(.i (.int .i64))], []⟩
noncomputable def z'2 (F : type_of% @spec_l5Pow2) (v : p'2.V) (K : KF α) : Option α := F N v.1.1 (fun o0_0 => K (.own 0) [(.arr 3 (.int .i64) o0_0 false)])
noncomputable def g'2 (v : p'2.V) (K : KF α) : Option α := z'2 N @spec_l5Pow2 v K
theorem e'2 (v : p'2.V) (K : KF α) : runFn env (ct26 N) (i'2 N) Tryz.f129 (SP.mkL p'2.slots v.1) (BP.mkL p'2.store v.2) K = g'2 N v K := Eq.trans (b := z'2 N @spec_l5Pow2.b v K) (by kernel_rfl) (by unfold g'2; rw [spec_l5Pow2.eq])
theorem o'2 (N : Nat) : CalleeOK gd P 129 (mkCallee false p'2 (g'2 N)) :=
  callee_ok fun v K h => fn_snd hE hP (hct26 N) Tryz.func129 (by kernel_rfl) (body := b'2) (by kernel_rfl) (by kernel_rfl) (AllOK.of (F := i'2 N) (l := []) (by kernel_rfl) .nil) (loans := BP.mkL p'2.store v.2) rfl ((e'2 N v K).trans h)
noncomputable def ct27 (N : Nat) : CT := (129, (mkCallee false p'2 (g'2 N))) :: ct26 N
theorem hct27 (N : Nat) : CTOK gd P (ct27 N) := .cons (o'2 N) (hct26 N)

noncomputable def p'3 : Pt := ⟨[.u, (.i (.int .i64)), .u, .u, .u, .u, (.i (.sl (.int .i64))), (.i (.sl (.int .i64))), .u, .u, .u, .u, .u, .u, .u, .u, .u, .u, .u, .u, .u, .u, .u, .u, .u, .u, .u, .u, .u, .u, .u, .u, .u, .u, .u], []⟩
noncomputable def z'3 (F : type_of% @spec_l8Scaled_J3) (v : p'3.V) (K : KO α) : Option α := F N v.1.2.1 v.1.2.2.2.2.2.2.1 v.1.2.2.2.2.2.2.2.1 (fun o0_0 o0_1 => K (.normal ⟨(us 6 [(.iv (.sl (.int .i64)) o0_0), (.iv (.sl (.int .i64)) o0_1), U, U, U, U, U, U, U, U, U, U, U, U, U, U, U, U, U, U, U, U, U, U, U, U, U, U, U]), []⟩))
noncomputable def g'3 (v : p'3.V) (K : KO α) : Option α := z'3 N @spec_l8Scaled_J3 v K
noncomputable def q'3 (N : Nat) : Piece := (mkPiece 20484 p'3 (g'3 N))
noncomputable def i'4 (N : Nat) : Fi := { loans := 0, owns := true, results := [.tmp 4, .tmp 5], rtys := [23, 4], blks := [], regs := [(3, q'3 N)], masks := [] }
noncomputable def b'4 : Code := match Tryz.f162.body with | some c => c | none => .skip
theorem e'3 (v : p'3.V) (K : KO α) : runSeq env (ct27 N) (i'4 N) 61440 (.seq (codeAt b'4 [1, 1, 1, 0, 0]) (codeAt b'4 [1, 1, 1, 0, 1])) (p'3.mk' v) K = g'3 N v K := Eq.trans (b := z'3 N @spec_l8Scaled_J3.b v K) (by kernel_rfl) (by unfold g'3; rw [spec_l8Scaled_J3.eq])
theorem o'3 (N : Nat) : PieceOK gd P (i'4 N) (.seq (codeAt b'4 [1, 1, 1, 0, 0]) (codeAt b'4 [1, 1, 1, 0, 1])) (mkPiece 20484 p'3 (g'3 N)) :=
  piece_seq hE hP (hct27 N) (AllOK.of (F := i'4 N) (l := []) (by kernel_rfl) .nil) (AllOK.of (F := i'4 N) (l := []) (by kernel_rfl) .nil) (e'3 N)
theorem oq'3 (N : Nat) : PieceOK gd P (i'4 N) (.seq (codeAt b'4 [1, 1, 1, 0, 0]) (codeAt b'4 [1, 1, 1, 0, 1])) (q'3 N) := (o'3 N)
noncomputable def p'4 : Pt := ⟨[(.i (.pair .bool (.pair (.sl (.int .i64)) (.pair (.sl (.int .i64)) .unit)))), (.i (.int .i64))], []⟩
noncomputable def z'4 (F : type_of% @spec_l8Scaled) (v : p'4.V) (K : KF α) : Option α := F N v.1.1 v.1.2.1 (fun o0_0 o0_1 => K (.tuple [(.own 0), (.iv .bool o0_0)]) [(.arr 3 (.int .i64) o0_1 false)])
noncomputable def g'4 (v : p'4.V) (K : KF α) : Option α := z'4 N @spec_l8Scaled v K
theorem e'4 (v : p'4.V) (K : KF α) : runFn env (ct27 N) (i'4 N) Tryz.f162 (SP.mkL p'4.slots v.1) (BP.mkL p'4.store v.2) K = g'4 N v K := Eq.trans (b := z'4 N @spec_l8Scaled.b v K) (by kernel_rfl) (by unfold g'4; rw [spec_l8Scaled.eq])
theorem o'4 (N : Nat) : CalleeOK gd P 162 (mkCallee false p'4 (g'4 N)) :=
  callee_ok fun v K h => fn_snd hE hP (hct27 N) Tryz.func162 (by kernel_rfl) (body := b'4) (by kernel_rfl) (by kernel_rfl) (AllOK.of (F := i'4 N) (l := [((.seq (codeAt b'4 [1, 1, 1, 0, 0]) (codeAt b'4 [1, 1, 1, 0, 1])), q'3 N)]) (by kernel_rfl) (.cons (oq'3 N) .nil)) (loans := BP.mkL p'4.store v.2) rfl ((e'4 N v K).trans h)
noncomputable def ct28 (N : Nat) : CT := (162, (mkCallee false p'4 (g'4 N))) :: ct27 N
theorem hct28 (N : Nat) : CTOK gd P (ct28 N) := .cons (o'4 N) (hct27 N)

noncomputable def p'5 : Pt := ⟨[(.i (.sl (.int .i64))), .u, .u, .u, (.i (.int .u64)), (.i (.int .i64)), .u, .u, .u, .u, .u, .u, .u, .u, .u, .u, .u, .u, .u, .u, .u, .u, .u, .u, .u, .u, .u, .u, .u, .u], []⟩
noncomputable def g'5 (n : Nat) (v : p'5.V) (K : KO α) : Option α := spec_NatSmall_L0 N n v.1.1 v.1.2.2.2.2.1 v.1.2.2.2.2.2.1 (fun o0_0 => K (.normal ⟨(us 4 [(.iv (.int .u64) o0_0), U, U, U, U, U, U, U, U, U, U, U, U, U, U, U, U, U, U, U, U, U, U, U, U, U]), []⟩))
noncomputable def q'5 (N : Nat) : Piece := (mkPiece 1281 p'5 (g'5 N N))
noncomputable def i'6 (N : Nat) : Fi := { loans := 0, owns := true, results := [.tmp 2, .tmp 3], rtys := [77, 4], blks := [(0, q'5 N)], regs := [], masks := [(0, 256)] }
noncomputable def b'6 : Code := match Tryz.f163.body with | some c => c | none => .skip
theorem e'5 (n : Nat) (v : p'5.V) (K : KO α) : runRound env (ct28 N) (i'6 N) 1281 (mkPiece 1281 p'5 (g'5 N n)).run (.block 0 (.loop (codeAt b'6 [1, 1, 1, 0, 1, 0, 0]))) (p'5.mk' v) K = g'5 N (n + 1) v K := Eq.trans (b := spec_NatSmall_L0r N (fun y0 y1 y2 => spec_NatSmall_L0 N n y0 y1 y2 (fun o0_0 => K (.normal ⟨(us 4 [(.iv (.int .u64) o0_0), U, U, U, U, U, U, U, U, U, U, U, U, U, U, U, U, U, U, U, U, U, U, U, U, U]), []⟩))) (fun o0_0 => K (.normal ⟨(us 4 [(.iv (.int .u64) o0_0), U, U, U, U, U, U, U, U, U, U, U, U, U, U, U, U, U, U, U, U, U, U, U, U, U]), []⟩)) v.1.1 v.1.2.2.2.2.1 v.1.2.2.2.2.2.1) (by kernel_rfl) (by unfold g'5; rw [spec_NatSmall_L0.succ])
theorem o'5 (N : Nat) : PieceOK gd P (i'6 N) (.block 0 (.loop (codeAt b'6 [1, 1, 1, 0, 1, 0, 0]))) (mkPiece 1281 p'5 (g'5 N N)) :=
  piece_loop hE hP (hct28 N) (AllOK.of (F := i'6 N) (l := []) (by kernel_rfl) .nil) (fun n {_} => g'5 N n) (fun _ _ => by unfold g'5; rw [spec_NatSmall_L0.zero]) (fun n {_} v K => e'5 N n v K) N
theorem oq'5 (N : Nat) : PieceOK gd P (i'6 N) (.block 0 (.loop (codeAt b'6 [1, 1, 1, 0, 1, 0, 0]))) (q'5 N) := (o'5 N)
noncomputable def p'6 : Pt := ⟨[(.i (.sl (.int .i64)))], []⟩
noncomputable def z'6 (F : type_of% @spec_NatSmall) (v : p'6.V) (K : KF α) : Option α := F N v.1.1 (fun o0_0 o0_1 => K (.tuple [(.iv (.int .u64) o0_0), (.iv .bool o0_1)]) [])
noncomputable def g'6 (v : p'6.V) (K : KF α) : Option α := z'6 N @spec_NatSmall v K
theorem e'6 (v : p'6.V) (K : KF α) : runFn env (ct28 N) (i'6 N) Tryz.f163 (SP.mkL p'6.slots v.1) (BP.mkL p'6.store v.2) K = g'6 N v K := Eq.trans (b := z'6 N @spec_NatSmall.b v K) (by kernel_rfl) (by unfold g'6; rw [spec_NatSmall.eq])
theorem o'6 (N : Nat) : CalleeOK gd P 163 (mkCallee false p'6 (g'6 N)) :=
  callee_ok fun v K h => fn_snd hE hP (hct28 N) Tryz.func163 (by kernel_rfl) (body := b'6) (by kernel_rfl) (by kernel_rfl) (AllOK.of (F := i'6 N) (l := [((.block 0 (.loop (codeAt b'6 [1, 1, 1, 0, 1, 0, 0]))), q'5 N)]) (by kernel_rfl) (.cons (oq'5 N) .nil)) (loans := BP.mkL p'6.store v.2) rfl ((e'6 N v K).trans h)
noncomputable def ct29 (N : Nat) : CT := (163, (mkCallee false p'6 (g'6 N))) :: ct28 N
theorem hct29 (N : Nat) : CTOK gd P (ct29 N) := .cons (o'6 N) (hct28 N)

noncomputable def i'7 (N : Nat) : Fi := { loans := 0, owns := true, results := [.tmp 2], rtys := [3], blks := [], regs := [], masks := [] }
noncomputable def b'7 : Code := match Tryz.f155.body with | some c => c | none => .skip
noncomputable def p'7 : Pt := ⟨[(.i (.int .i64))], []⟩
noncomputable def z'7 (F : type_of% @spec_BitTop) (v : p'7.V) (K : KF α) : Option α := F N v.1.1 (fun o0_0 => K (.iv (.int .i64) o0_0) [])
noncomputable def g'7 (v : p'7.V) (K : KF α) : Option α := z'7 N @spec_BitTop v K
theorem e'7 (v : p'7.V) (K : KF α) : runFn env (ct29 N) (i'7 N) Tryz.f155 (SP.mkL p'7.slots v.1) (BP.mkL p'7.store v.2) K = g'7 N v K := Eq.trans (b := z'7 N @spec_BitTop.b v K) (by kernel_rfl) (by unfold g'7; rw [spec_BitTop.eq])
theorem o'7 (N : Nat) : CalleeOK gd P 155 (mkCallee false p'7 (g'7 N)) :=
  callee_ok fun v K h => fn_snd hE hP (hct29 N) Tryz.func155 (by kernel_rfl) (body := b'7) (by kernel_rfl) (by kernel_rfl) (AllOK.of (F := i'7 N) (l := []) (by kernel_rfl) .nil) (loans := BP.mkL p'7.store v.2) rfl ((e'7 N v K).trans h)
noncomputable def ct30 (N : Nat) : CT := (155, (mkCallee false p'7 (g'7 N))) :: ct29 N
theorem hct30 (N : Nat) : CTOK gd P (ct30 N) := .cons (o'7 N) (hct29 N)

noncomputable def p'8 : Pt := ⟨[(.i (.int .i64)), .u, .u, (.p 0 [] 0), .u, .u, (.i (.int .i64)), (.i (.int .i64)), .u, .u, .u, .u, .u, .u, .u, .u, .u, .u, .u, .u, .u, .u, .u, .u, .u, .u, .u, .u, .u, .u, .u, .u, .u, .u, .u, .u, .u, .u, .u, .u, .u, .u, .u, .u, .u, .u, .u, .u, .u, .u, .u, .u, .u, .u, .u, .u, .u, .u, .u, .u, .u, .u, .u, .u, .u, .u, .u, .u, .u, .u, .u, .u, .u, .u, .u, .u, .u, .u, .u, .u, .u, .u, .u, .u, .u, .u, .u, .u, .u, .u, .u, .u, .u, .u, .u, .u, .u], [(.box 122 (.i (.pair .bool (.pair (.sl (.int .i64)) (.pair (.sl (.int .i64)) .unit)))) false)]⟩
noncomputable def z'8 (F : type_of% @spec_l8Size_J5) (v : p'8.V) (K : KO α) : Option α := F N v.1.1 v.1.2.2.2.2.2.2.1 v.1.2.2.2.2.2.2.2.1 v.2.1 (fun o0_0 o0_1 o0_2 o0_3 => K (.normal ⟨[(.iv (.int .i64) o0_0), U, U, (.lp 0 [] 0), U, U, (.iv (.int .i64) o0_1), (.iv (.int .i64) o0_2), U, U, U, U, U, U, U, U, U, U, U, U, U, U, U, U, U, U, U, U, U, U, U, U, U, U, U, U, U, U, U, U, U, U, U, U, U, U, U, U, U, U, U, U, U, U, U, U, U, U, U, U, U, U, U, U, U, U, U, U, U, U, U, U, U, U, U, U, U, U, U, U, U, U, U, U, U, U, U, U, U, U, U, U, U, U, U, U, U], [(.box 122 (.iv (.pair .bool (.pair (.sl (.int .i64)) (.pair (.sl (.int .i64)) .unit))) o0_3) false)]⟩))
noncomputable def g'8 (v : p'8.V) (K : KO α) : Option α := z'8 N @spec_l8Size_J5 v K
noncomputable def p'9 : Pt := ⟨[(.i (.int .i64)), .u, .u, (.p 0 [] 0), .u, .u, (.i (.int .i64)), (.i (.int .i64)), (.o 1), (.i .bool), .u, .u, .u, .u, .u, .u, .u, .u, .u, .u, .u, .u, .u, .u, .u, .u, .u, .u, .u, .u, .u, .u, .u, .u, .u, .u, .u, .u, .u, .u, .u, .u, .u, .u, .u, .u, .u, .u, .u, .u, .u, .u, .u, .u, .u, .u, .u, .u, .u, .u, .u, .u, .u, .u, .u, .u, .u, .u, .u, .u, .u, .u, .u, .u, .u, .u, .u, .u, .u, .u, .u, .u, .u, .u, .u, .u, .u, .u, .u, .u, .u, .u, .u, .u, .u, .u, .u], [(.box 122 (.i (.pair .bool (.pair (.sl (.int .i64)) (.pair (.sl (.int .i64)) .unit)))) false), (.arr 3 (.int .i64) false)]⟩
noncomputable def g'9 (n : Nat) (v : p'9.V) (K : KO α) : Option α := spec_l8Size_L0 N n v.1.1 v.1.2.2.2.2.2.2.1 v.1.2.2.2.2.2.2.2.1 v.1.2.2.2.2.2.2.2.2.2.1 v.2.1 v.2.2.1 (fun o0_0 o0_1 o0_2 o0_3 o0_4 => K (.normal ⟨[(.iv (.int .i64) o0_0), U, U, U, U, U, (.iv (.int .i64) o0_1), (.iv (.int .i64) o0_2), (.own 0), (.iv .bool o0_3), U, U, U, U, U, U, U, U, U, U, U, U, U, U, U, U, U, U, U, U, U, U, U, U, U, U, U, U, U, U, U, U, U, U, U, U, U, U, U, U, U, U, U, U, U, U, U, U, U, U, U, U, U, U, U, U, U, U, U, U, U, U, U, U, U, U, U, U, U, U, U, U, U, U, U, U, U, U, U, U, U, U, U, U, U, U, U], [(.arr 3 (.int .i64) o0_4 false)]⟩))
noncomputable def q'8 (N : Nat) : Piece := (mkPiece 20545 p'8 (g'8 N))
noncomputable def q'9 (N : Nat) : Piece := (mkPiece 348225 p'9 (g'9 N N))
noncomputable def i'ba (N : Nat) : Fi := { loans := 0, owns := true, results := [.tmp 4, .tmp 5], rtys := [3, 4], blks := [(0, q'9 N)], regs := [(5, q'8 N)], masks := [(0, 348161)] }
noncomputable def b'ba : Code := match Tryz.f134.body with | some c => c | none => .skip
theorem e'8 (v : p'8.V) (K : KO α) : runSeq env (ct30 N) (i'ba N) 20545 (.seq (codeAt b'ba [1, 1, 1, 1, 0, 0]) (codeAt b'ba [1, 1, 1, 1, 0, 1])) (p'8.mk' v) K = g'8 N v K := Eq.trans (b := z'8 N @spec_l8Size_J5.b v K) (by kernel_rfl) (by unfold g'8; rw [spec_l8Size_J5.eq])
theorem o'8 (N : Nat) : PieceOK gd P (i'ba N) (.seq (codeAt b'ba [1, 1, 1, 1, 0, 0]) (codeAt b'ba [1, 1, 1, 1, 0, 1])) (mkPiece 20545 p'8 (g'8 N)) :=
  piece_seq hE hP (hct30 N) (AllOK.of (F := i'ba N) (l := []) (by kernel_rfl) .nil) (AllOK.of (F := i'ba N) (l := []) (by kernel_rfl) .nil) (e'8 N)
theorem oq'8 (N : Nat) : PieceOK gd P (i'ba N) (.seq (codeAt b'ba [1, 1, 1, 1, 0, 0]) (codeAt b'ba [1, 1, 1, 1, 0, 1])) (q'8 N) := (o'8 N)
theorem e'9 (n : Nat) (v : p'9.V) (K : KO α) : runRound env (ct30 N) (i'ba N) 348225 (mkPiece 348225 p'9 (g'9 N n)).run (.block 0 (.loop (codeAt b'ba [1, 1, 1, 1, 1, 1, 0, 0, 0]))) (p'9.mk' v) K = g'9 N (n + 1) v K := Eq.trans (b := spec_l8Size_L0r N (fun y0 y1 y2 y3 y4 y5 => spec_l8Size_L0 N n y0 y1 y2 y3 y4 y5 (fun o0_0 o0_1 o0_2 o0_3 o0_4 => K (.normal ⟨[(.iv (.int .i64) o0_0), U, U, U, U, U, (.iv (.int .i64) o0_1), (.iv (.int .i64) o0_2), (.own 0), (.iv .bool o0_3), U, U, U, U, U, U, U, U, U, U, U, U, U, U, U, U, U, U, U, U, U, U, U, U, U, U, U, U, U, U, U, U, U, U, U, U, U, U, U, U, U, U, U, U, U, U, U, U, U, U, U, U, U, U, U, U, U, U, U, U, U, U, U, U, U, U, U, U, U, U, U, U, U, U, U, U, U, U, U, U, U, U, U, U, U, U, U], [(.arr 3 (.int .i64) o0_4 false)]⟩))) (fun o0_0 o0_1 o0_2 o0_3 o0_4 => K (.normal ⟨[(.iv (.int .i64) o0_0), U, U, U, U, U, (.iv (.int .i64) o0_1), (.iv (.int .i64) o0_2), (.own 0), (.iv .bool o0_3), U, U, U, U, U, U, U, U, U, U, U, U, U, U, U, U, U, U, U, U, U, U, U, U, U, U, U, U, U, U, U, U, U, U, U, U, U, U, U, U, U, U, U, U, U, U, U, U, U, U, U, U, U, U, U, U, U, U, U, U, U, U, U, U, U, U, U, U, U, U, U, U, U, U, U, U, U, U, U, U, U, U, U, U, U, U, U], [(.arr 3 (.int .i64) o0_4 false)]⟩)) v.1.1 v.1.2.2.2.2.2.2.1 v.1.2.2.2.2.2.2.2.1 v.1.2.2.2.2.2.2.2.2.2.1 v.2.1 v.2.2.1) (by kernel_rfl) (by unfold g'9; rw [spec_l8Size_L0.succ])
theorem o'9 (N : Nat) : PieceOK gd P (i'ba N) (.block 0 (.loop (codeAt b'ba [1, 1, 1, 1, 1, 1, 0, 0, 0]))) (mkPiece 348225 p'9 (g'9 N N)) :=
  piece_loop hE hP (hct30 N) (AllOK.of (F := i'ba N) (l := []) (by kernel_rfl) .nil) (fun n {_} => g'9 N n) (fun _ _ => by unfold g'9; rw [spec_l8Size_L0.zero]) (fun n {_} v K => e'9 N n v K) N
theorem oq'9 (N : Nat) : PieceOK gd P (i'ba N) (.block 0 (.loop (codeAt b'ba [1, 1, 1, 1, 1, 1, 0, 0, 0]))) (q'9 N) := (o'9 N)
noncomputable def p'ba : Pt := ⟨[(.i (.int .i64)), (.i (.pair .bool (.pair (.sl (.int .i64)) (.pair (.sl (.int .i64)) .unit))))], []⟩
noncomputable def z'ba (F : type_of% @spec_l8Size) (v : p'ba.V) (K : KF α) : Option α := F N v.1.1 v.1.2.1 (fun o0_0 o0_1 => K (.tuple [(.iv (.int .i64) o0_0), (.iv .bool o0_1)]) [])
noncomputable def g'ba (v : p'ba.V) (K : KF α) : Option α := z'ba N @spec_l8Size v K
theorem e'ba (v : p'ba.V) (K : KF α) : runFn env (ct30 N) (i'ba N) Tryz.f134 (SP.mkL p'ba.slots v.1) (BP.mkL p'ba.store v.2) K = g'ba N v K := Eq.trans (b := z'ba N @spec_l8Size.b v K) (by kernel_rfl) (by unfold g'ba; rw [spec_l8Size.eq])
theorem o'ba (N : Nat) : CalleeOK gd P 134 (mkCallee false p'ba (g'ba N)) :=
  callee_ok fun v K h => fn_snd hE hP (hct30 N) Tryz.func134 (by kernel_rfl) (body := b'ba) (by kernel_rfl) (by kernel_rfl) (AllOK.of (F := i'ba N) (l := [((.seq (codeAt b'ba [1, 1, 1, 1, 0, 0]) (codeAt b'ba [1, 1, 1, 1, 0, 1])), q'8 N), ((.block 0 (.loop (codeAt b'ba [1, 1, 1, 1, 1, 1, 0, 0, 0]))), q'9 N)]) (by kernel_rfl) (.cons (oq'8 N) (.cons (oq'9 N) .nil))) (loans := BP.mkL p'ba.store v.2) rfl ((e'ba N v K).trans h)
noncomputable def ct31 (N : Nat) : CT := (134, (mkCallee false p'ba (g'ba N))) :: ct30 N
theorem hct31 (N : Nat) : CTOK gd P (ct31 N) := .cons (o'ba N) (hct30 N)

noncomputable def p'bb : Pt := ⟨[.u, .u, (.i .bool), .u, .u, .u, .u, (.i (.int .i64)), (.i .bool), .u, .u, .u, .u, .u, .u, .u, .u, .u, .u, .u, .u, .u, .u, .u, .u, .u, .u, .u, .u, .u, .u, .u, .u], []⟩
noncomputable def z'bb (F : type_of% @spec_l8Round_J3) (v : p'bb.V) (K : KO α) : Option α := F N v.1.2.2.1 v.1.2.2.2.2.2.2.2.1 v.1.2.2.2.2.2.2.2.2.1 (fun o0_0 => K (.normal ⟨(us 7 [(.iv (.int .i64) o0_0), U, U, U, U, U, U, U, U, U, U, U, U, U, U, U, U, U, U, U, U, U, U, U, U, U]), []⟩))
noncomputable def g'bb (v : p'bb.V) (K : KO α) : Option α := z'bb N @spec_l8Round_J3 v K
noncomputable def p'bc : Pt := ⟨[.u, .u, (.i .bool), .u, .u, .u, .u, (.i (.int .i64)), (.i .bool), .u, .u, .u, .u, .u, .u, .u, .u, .u, .u, .u, .u, .u, .u, .u, .u, .u, .u, .u, .u, .u, .u, .u, .u], []⟩
noncomputable def z'bc (F : type_of% @spec_l8Round_J6) (v : p'bc.V) (K : KO α) : Option α := F N v.1.2.2.1 v.1.2.2.2.2.2.2.2.1 v.1.2.2.2.2.2.2.2.2.1 (fun o0_0 => K (.normal ⟨(us 7 [(.iv (.int .i64) o0_0), U, U, U, U, U, U, U, U, U, U, U, U, U, U, U, U, U, U, U, U, U, U, U, U, U]), []⟩))
noncomputable def g'bc (v : p'bc.V) (K : KO α) : Option α := z'bc N @spec_l8Round_J6 v K
noncomputable def q'bb (N : Nat) : Piece := (mkPiece 81936 p'bb (g'bb N))
noncomputable def q'bc (N : Nat) : Piece := (mkPiece 81936 p'bc (g'bc N))
noncomputable def i'bd (N : Nat) : Fi := { loans := 0, owns := true, results := [.tmp 6], rtys := [3], blks := [], regs := [(3, q'bb N), (6, q'bc N)], masks := [] }
noncomputable def b'bd : Code := match Tryz.f97.body with | some c => c | none => .skip
theorem e'bb (v : p'bb.V) (K : KO α) : runSeq env (ct31 N) (i'bd N) 16384 (.seq (codeAt b'bd [1, 1, 0, 1, 0, 0, 0]) (codeAt b'bd [1, 1, 0, 1, 0, 0, 1])) (p'bb.mk' v) K = g'bb N v K := Eq.trans (b := z'bb N @spec_l8Round_J3.b v K) (by kernel_rfl) (by unfold g'bb; rw [spec_l8Round_J3.eq])
theorem o'bb (N : Nat) : PieceOK gd P (i'bd N) (.seq (codeAt b'bd [1, 1, 0, 1, 0, 0, 0]) (codeAt b'bd [1, 1, 0, 1, 0, 0, 1])) (mkPiece 81936 p'bb (g'bb N)) :=
  piece_seq hE hP (hct31 N) (AllOK.of (F := i'bd N) (l := []) (by kernel_rfl) .nil) (AllOK.of (F := i'bd N) (l := []) (by kernel_rfl) .nil) (e'bb N)
theorem oq'bb (N : Nat) : PieceOK gd P (i'bd N) (.seq (codeAt b'bd [1, 1, 0, 1, 0, 0, 0]) (codeAt b'bd [1, 1, 0, 1, 0, 0, 1])) (q'bb N) := (o'bb N)
theorem e'bc (v : p'bc.V) (K : KO α) : runSeq env (ct31 N) (i'bd N) 16384 (.seq (codeAt b'bd [1, 1, 1, 0, 0]) (codeAt b'bd [1, 1, 1, 0, 1])) (p'bc.mk' v) K = g'bc N v K := Eq.trans (b := z'bc N @spec_l8Round_J6.b v K) (by kernel_rfl) (by unfold g'bc; rw [spec_l8Round_J6.eq])
theorem o'bc (N : Nat) : PieceOK gd P (i'bd N) (.seq (codeAt b'bd [1, 1, 1, 0, 0]) (codeAt b'bd [1, 1, 1, 0, 1])) (mkPiece 81936 p'bc (g'bc N)) :=
  piece_seq hE hP (hct31 N) (AllOK.of (F := i'bd N) (l := []) (by kernel_rfl) .nil) (AllOK.of (F := i'bd N) (l := []) (by kernel_rfl) .nil) (e'bc N)
theorem oq'bc (N : Nat) : PieceOK gd P (i'bd N) (.seq (codeAt b'bd [1, 1, 1, 0, 0]) (codeAt b'bd [1, 1, 1, 0, 1])) (q'bc N) := (o'bc N)
noncomputable def p'bd : Pt := ⟨[(.i (.int .i64)), (.i (.pair .bool (.pair (.sl (.int .i64)) (.pair (.sl (.int .i64)) .unit)))), (.i .bool)], []⟩
noncomputable def z'bd (F : type_of% @spec_l8Round) (v : p'bd.V) (K : KF α) : Option α := F N v.1.1 v.1.2.1 v.1.2.2.1 (fun o0_0 => K (.iv (.int .i64) o0_0) [])
noncomputable def g'bd (v : p'bd.V) (K : KF α) : Option α := z'bd N @spec_l8Round v K
theorem e'bd (v : p'bd.V) (K : KF α) : runFn env (ct31 N) (i'bd N) Tryz.f97 (SP.mkL p'bd.slots v.1) (BP.mkL p'bd.store v.2) K = g'bd N v K := Eq.trans (b := z'bd N @spec_l8Round.b v K) (by kernel_rfl) (by unfold g'bd; rw [spec_l8Round.eq])
theorem o'bd (N : Nat) : CalleeOK gd P 97 (mkCallee false p'bd (g'bd N)) :=
  callee_ok fun v K h => fn_snd hE hP (hct31 N) Tryz.func97 (by kernel_rfl) (body := b'bd) (by kernel_rfl) (by kernel_rfl) (AllOK.of (F := i'bd N) (l := [((.seq (codeAt b'bd [1, 1, 0, 1, 0, 0, 0]) (codeAt b'bd [1, 1, 0, 1, 0, 0, 1])), q'bb N), ((.seq (codeAt b'bd [1, 1, 1, 0, 0]) (codeAt b'bd [1, 1, 1, 0, 1])), q'bc N)]) (by kernel_rfl) (.cons (oq'bb N) (.cons (oq'bc N) .nil))) (loans := BP.mkL p'bd.store v.2) rfl ((e'bd N v K).trans h)
noncomputable def ct32 (N : Nat) : CT := (97, (mkCallee false p'bd (g'bd N))) :: ct31 N
theorem hct32 (N : Nat) : CTOK gd P (ct32 N) := .cons (o'bd N) (hct31 N)

noncomputable def i'be (N : Nat) : Fi := { loans := 0, owns := true, results := [.tmp 4, .tmp 5], rtys := [3, 4], blks := [], regs := [], masks := [] }
noncomputable def b'be : Code := match Tryz.f58.body with | some c => c | none => .skip
noncomputable def p'be : Pt := ⟨[(.i (.int .i64)), (.i (.pair .bool (.pair (.sl (.int .i64)) (.pair (.sl (.int .i64)) .unit))))], []⟩
noncomputable def z'be (F : type_of% @spec_FloatDown) (v : p'be.V) (K : KF α) : Option α := F N v.1.1 v.1.2.1 (fun o0_0 o0_1 => K (.tuple [(.iv (.int .i64) o0_0), (.iv .bool o0_1)]) [])
noncomputable def g'be (v : p'be.V) (K : KF α) : Option α := z'be N @spec_FloatDown v K
theorem e'be (v : p'be.V) (K : KF α) : runFn env (ct32 N) (i'be N) Tryz.f58 (SP.mkL p'be.slots v.1) (BP.mkL p'be.store v.2) K = g'be N v K := Eq.trans (b := z'be N @spec_FloatDown.b v K) (by kernel_rfl) (by unfold g'be; rw [spec_FloatDown.eq])
theorem o'be (N : Nat) : CalleeOK gd P 58 (mkCallee false p'be (g'be N)) :=
  callee_ok fun v K h => fn_snd hE hP (hct32 N) Tryz.func58 (by kernel_rfl) (body := b'be) (by kernel_rfl) (by kernel_rfl) (AllOK.of (F := i'be N) (l := []) (by kernel_rfl) .nil) (loans := BP.mkL p'be.store v.2) rfl ((e'be N v K).trans h)
noncomputable def ct33 (N : Nat) : CT := (58, (mkCallee false p'be (g'be N))) :: ct32 N
theorem hct33 (N : Nat) : CTOK gd P (ct33 N) := .cons (o'be N) (hct32 N)

noncomputable def i'bf (N : Nat) : Fi := { loans := 0, owns := true, results := [.tmp 4, .tmp 5], rtys := [3, 4], blks := [], regs := [], masks := [] }
noncomputable def b'bf : Code := match Tryz.f59.body with | some c => c | none => .skip
noncomputable def p'bf : Pt := ⟨[(.i (.int .i64)), (.i (.pair .bool (.pair (.sl (.int .i64)) (.pair (.sl (.int .i64)) .unit))))], []⟩
noncomputable def z'bf (F : type_of% @spec_FloatUp) (v : p'bf.V) (K : KF α) : Option α := F N v.1.1 v.1.2.1 (fun o0_0 o0_1 => K (.tuple [(.iv (.int .i64) o0_0), (.iv .bool o0_1)]) [])
noncomputable def g'bf (v : p'bf.V) (K : KF α) : Option α := z'bf N @spec_FloatUp v K
theorem e'bf (v : p'bf.V) (K : KF α) : runFn env (ct33 N) (i'bf N) Tryz.f59 (SP.mkL p'bf.slots v.1) (BP.mkL p'bf.store v.2) K = g'bf N v K := Eq.trans (b := z'bf N @spec_FloatUp.b v K) (by kernel_rfl) (by unfold g'bf; rw [spec_FloatUp.eq])
theorem o'bf (N : Nat) : CalleeOK gd P 59 (mkCallee false p'bf (g'bf N)) :=
  callee_ok fun v K h => fn_snd hE hP (hct33 N) Tryz.func59 (by kernel_rfl) (body := b'bf) (by kernel_rfl) (by kernel_rfl) (AllOK.of (F := i'bf N) (l := []) (by kernel_rfl) .nil) (loans := BP.mkL p'bf.store v.2) rfl ((e'bf N v K).trans h)
noncomputable def ct34 (N : Nat) : CT := (59, (mkCallee false p'bf (g'bf N))) :: ct33 N
theorem hct34 (N : Nat) : CTOK gd P (ct34 N) := .cons (o'bf N) (hct33 N)

noncomputable def i'bg (N : Nat) : Fi := { loans := 0, owns := true, results := [.cell 4 35, .tmp 5], rtys := [35, 4], blks := [], regs := [], masks := [] }
noncomputable def b'bg : Code := match Tryz.f21.body with | some c => c | none => .skip
noncomputable def p'bg : Pt := ⟨[(.i (.int .i64)), (.i (.pair .bool (.pair (.sl (.int .i64)) (.pair (.sl (.int .i64)) .unit))))], []⟩
noncomputable def z'bg (F : type_of% @spec_PairFrac) (v : p'bg.V) (K : KF α) : Option α := F N v.1.1 v.1.2.1 (fun o0_0 o0_1 => K (.tuple [(.iv (.pair (.int .i64) (.pair (.int .i64) .unit)) o0_0), (.iv .bool o0_1)]) [])
noncomputable def g'bg (v : p'bg.V) (K : KF α) : Option α := z'bg N @spec_PairFrac v K
theorem e'bg (v : p'bg.V) (K : KF α) : runFn env (ct34 N) (i'bg N) Tryz.f21 (SP.mkL p'bg.slots v.1) (BP.mkL p'bg.store v.2) K = g'bg N v K := Eq.trans (b := z'bg N @spec_PairFrac.b v K) (by kernel_rfl) (by unfold g'bg; rw [spec_PairFrac.eq])
theorem o'bg (N : Nat) : CalleeOK gd P 21 (mkCallee false p'bg (g'bg N)) :=
  callee_ok fun v K h => fn_snd hE hP (hct34 N) Tryz.func21 (by kernel_rfl) (body := b'bg) (by kernel_rfl) (by kernel_rfl) (AllOK.of (F := i'bg N) (l := []) (by kernel_rfl) .nil) (loans := BP.mkL p'bg.store v.2) rfl ((e'bg N v K).trans h)
noncomputable def ct35 (N : Nat) : CT := (21, (mkCallee false p'bg (g'bg N))) :: ct34 N
theorem hct35 (N : Nat) : CTOK gd P (ct35 N) := .cons (o'bg N) (hct34 N)

noncomputable def i'bh (N : Nat) : Fi := { loans := 0, owns := true, results := [.cell 4 35, .tmp 5], rtys := [35, 4], blks := [], regs := [], masks := [] }
noncomputable def b'bh : Code := match Tryz.f13.body with | some c => c | none => .skip
noncomputable def p'bh : Pt := ⟨[(.i (.int .i64)), (.i .str)], []⟩
noncomputable def z'bh (F : type_of% @spec_PairDec) (v : p'bh.V) (K : KF α) : Option α := F N v.1.1 v.1.2.1 (fun o0_0 o0_1 => K (.tuple [(.iv (.pair (.int .i64) (.pair (.int .i64) .unit)) o0_0), (.iv .bool o0_1)]) [])
noncomputable def g'bh (v : p'bh.V) (K : KF α) : Option α := z'bh N @spec_PairDec v K
theorem e'bh (v : p'bh.V) (K : KF α) : runFn env (ct35 N) (i'bh N) Tryz.f13 (SP.mkL p'bh.slots v.1) (BP.mkL p'bh.store v.2) K = g'bh N v K := Eq.trans (b := z'bh N @spec_PairDec.b v K) (by kernel_rfl) (by unfold g'bh; rw [spec_PairDec.eq])
theorem o'bh (N : Nat) : CalleeOK gd P 13 (mkCallee false p'bh (g'bh N)) :=
  callee_ok fun v K h => fn_snd hE hP (hct35 N) Tryz.func13 (by kernel_rfl) (body := b'bh) (by kernel_rfl) (by kernel_rfl) (AllOK.of (F := i'bh N) (l := []) (by kernel_rfl) .nil) (loans := BP.mkL p'bh.store v.2) rfl ((e'bh N v K).trans h)
noncomputable def ct36 (N : Nat) : CT := (13, (mkCallee false p'bh (g'bh N))) :: ct35 N
theorem hct36 (N : Nat) : CTOK gd P (ct36 N) := .cons (o'bh N) (hct35 N)

noncomputable def p'bi : Pt := ⟨[.i .str, .i .str], []⟩
noncomputable def g'bi (N : Nat) {α : Type} (v : p'bi.V) (K : HV → List Blk → Option α) : Option α := internal_stringslite_Index N v.1.1 v.1.2.1 (fun x => K (.iv (.int .i64) x) [])
theorem o'bi (N : Nat) : CalleeOK gd P 121 (mkCallee false p'bi (g'bi N)) :=
  callee_index (gd := gd) lays219 (by kernel_rfl) Tryz.func121 (by kernel_rfl) (by kernel_rfl) N
noncomputable def ct37 (N : Nat) : CT := (121, (mkCallee false p'bi (g'bi N))) :: ct36 N
theorem hct37 (N : Nat) : CTOK gd P (ct37 N) := .cons (o'bi N) (hct36 N)

noncomputable def i'bj (N : Nat) : Fi := { loans := 0, owns := true, results := [.tmp 4, .tmp 5, .tmp 6], rtys := [9, 9, 4], blks := [], regs := [], masks := [] }
noncomputable def b'bj : Code := match Tryz.f69.body with | some c => c | none => .skip
noncomputable def p'bj : Pt := ⟨[(.i .str), (.i .str)], []⟩
noncomputable def z'bj (F : type_of% @internal_stringslite_Cut) (v : p'bj.V) (K : KF α) : Option α := F N v.1.1 v.1.2.1 (fun o0_0 o0_1 o0_2 => K (.tuple [(.iv .str o0_0), (.iv .str o0_1), (.iv .bool o0_2)]) [])
noncomputable def g'bj (v : p'bj.V) (K : KF α) : Option α := z'bj N @internal_stringslite_Cut v K
theorem e'bj (v : p'bj.V) (K : KF α) : runFn env (ct37 N) (i'bj N) Tryz.f69 (SP.mkL p'bj.slots v.1) (BP.mkL p'bj.store v.2) K = g'bj N v K := Eq.trans (b := z'bj N @internal_stringslite_Cut.b v K) (by kernel_rfl) (by unfold g'bj; rw [internal_stringslite_Cut.eq])
theorem o'bj (N : Nat) : CalleeOK gd P 69 (mkCallee false p'bj (g'bj N)) :=
  callee_ok fun v K h => fn_snd hE hP (hct37 N) Tryz.func69 (by kernel_rfl) (body := b'bj) (by kernel_rfl) (by kernel_rfl) (AllOK.of (F := i'bj N) (l := []) (by kernel_rfl) .nil) (loans := BP.mkL p'bj.store v.2) rfl ((e'bj N v K).trans h)
noncomputable def ct38 (N : Nat) : CT := (69, (mkCallee false p'bj (g'bj N))) :: ct37 N
theorem hct38 (N : Nat) : CTOK gd P (ct38 N) := .cons (o'bj N) (hct37 N)

noncomputable def i'bk (N : Nat) : Fi := { loans := 0, owns := true, results := [.tmp 4, .tmp 5, .tmp 6], rtys := [9, 9, 4], blks := [], regs := [], masks := [] }
noncomputable def b'bk : Code := match Tryz.f32.body with | some c => c | none => .skip
noncomputable def p'bk : Pt := ⟨[(.i .str), (.i .str)], []⟩
noncomputable def z'bk (F : type_of% @strings_Cut) (v : p'bk.V) (K : KF α) : Option α := F N v.1.1 v.1.2.1 (fun o0_0 o0_1 o0_2 => K (.tuple [(.iv .str o0_0), (.iv .str o0_1), (.iv .bool o0_2)]) [])
noncomputable def g'bk (v : p'bk.V) (K : KF α) : Option α := z'bk N @strings_Cut v K
theorem e'bk (v : p'bk.V) (K : KF α) : runFn env (ct38 N) (i'bk N) Tryz.f32 (SP.mkL p'bk.slots v.1) (BP.mkL p'bk.store v.2) K = g'bk N v K := Eq.trans (b := z'bk N @strings_Cut.b v K) (by kernel_rfl) (by unfold g'bk; rw [strings_Cut.eq])
theorem o'bk (N : Nat) : CalleeOK gd P 32 (mkCallee false p'bk (g'bk N)) :=
  callee_ok fun v K h => fn_snd hE hP (hct38 N) Tryz.func32 (by kernel_rfl) (body := b'bk) (by kernel_rfl) (by kernel_rfl) (AllOK.of (F := i'bk N) (l := []) (by kernel_rfl) .nil) (loans := BP.mkL p'bk.store v.2) rfl ((e'bk N v K).trans h)
noncomputable def ct39 (N : Nat) : CT := (32, (mkCallee false p'bk (g'bk N))) :: ct38 N
theorem hct39 (N : Nat) : CTOK gd P (ct39 N) := .cons (o'bk N) (hct38 N)

noncomputable def p'bl : Pt := ⟨[(.i .str), .u, .u, .u, .u, (.i (.int .i64)), (.i (.int .i64)), .u, .u, .u, .u, .u, .u, .u, .u, .u, .u, .u, .u, .u, .u, .u], []⟩
noncomputable def g'bl (n : Nat) (v : p'bl.V) (K : KO α) : Option α := impl_isDigits_L0 N n v.1.1 v.1.2.2.2.2.2.1 v.1.2.2.2.2.2.2.1 (fun o0_0 => K (.ret (.iv .bool o0_0) [])) (fun o1_0 => K (.normal ⟨[(.iv .str o1_0), U, U, U, U, U, U, U, U, U, U, U, U, U, U, U, U, U, U, U, U, U], []⟩))
noncomputable def q'bl (N : Nat) : Piece := (mkPiece 5121 p'bl (g'bl N N))
noncomputable def i'bm (N : Nat) : Fi := { loans := 0, owns := true, results := [.tmp 2], rtys := [4], blks := [(0, q'bl N)], regs := [], masks := [(0, 1)] }
noncomputable def b'bm : Code := match Tryz.f70.body with | some c => c | none => .skip
theorem e'bl (n : Nat) (v : p'bl.V) (K : KO α) : runRound env (ct39 N) (i'bm N) 5121 (mkPiece 5121 p'bl (g'bl N n)).run (.block 0 (.loop (codeAt b'bm [1, 0, 1, 0, 0]))) (p'bl.mk' v) K = g'bl N (n + 1) v K := Eq.trans (b := impl_isDigits_L0r N (fun y0 y1 y2 => impl_isDigits_L0 N n y0 y1 y2 (fun o0_0 => K (.ret (.iv .bool o0_0) [])) (fun o1_0 => K (.normal ⟨[(.iv .str o1_0), U, U, U, U, U, U, U, U, U, U, U, U, U, U, U, U, U, U, U, U, U], []⟩))) (fun o0_0 => K (.ret (.iv .bool o0_0) [])) (fun o1_0 => K (.normal ⟨[(.iv .str o1_0), U, U, U, U, U, U, U, U, U, U, U, U, U, U, U, U, U, U, U, U, U], []⟩)) v.1.1 v.1.2.2.2.2.2.1 v.1.2.2.2.2.2.2.1) (by kernel_rfl) (by unfold g'bl; rw [impl_isDigits_L0.succ])
theorem o'bl (N : Nat) : PieceOK gd P (i'bm N) (.block 0 (.loop (codeAt b'bm [1, 0, 1, 0, 0]))) (mkPiece 5121 p'bl (g'bl N N)) :=
  piece_loop hE hP (hct39 N) (AllOK.of (F := i'bm N) (l := []) (by kernel_rfl) .nil) (fun n {_} => g'bl N n) (fun _ _ => by unfold g'bl; rw [impl_isDigits_L0.zero]) (fun n {_} v K => e'bl N n v K) N
theorem oq'bl (N : Nat) : PieceOK gd P (i'bm N) (.block 0 (.loop (codeAt b'bm [1, 0, 1, 0, 0]))) (q'bl N) := (o'bl N)
noncomputable def p'bm : Pt := ⟨[(.i .str)], []⟩
noncomputable def z'bm (F : type_of% @impl_isDigits) (v : p'bm.V) (K : KF α) : Option α := F N v.1.1 (fun o0_0 => K (.iv .bool o0_0) [])
noncomputable def g'bm (v : p'bm.V) (K : KF α) : Option α := z'bm N @impl_isDigits v K
theorem e'bm (v : p'bm.V) (K : KF α) : runFn env (ct39 N) (i'bm N) Tryz.f70 (SP.mkL p'bm.slots v.1) (BP.mkL p'bm.store v.2) K = g'bm N v K := Eq.trans (b := z'bm N @impl_isDigits.b v K) (by kernel_rfl) (by unfold g'bm; rw [impl_isDigits.eq])
theorem o'bm (N : Nat) : CalleeOK gd P 70 (mkCallee false p'bm (g'bm N)) :=
  callee_ok fun v K h => fn_snd hE hP (hct39 N) Tryz.func70 (by kernel_rfl) (body := b'bm) (by kernel_rfl) (by kernel_rfl) (AllOK.of (F := i'bm N) (l := [((.block 0 (.loop (codeAt b'bm [1, 0, 1, 0, 0]))), q'bl N)]) (by kernel_rfl) (.cons (oq'bl N) .nil)) (loans := BP.mkL p'bm.store v.2) rfl ((e'bm N v K).trans h)
noncomputable def ct40 (N : Nat) : CT := (70, (mkCallee false p'bm (g'bm N))) :: ct39 N
theorem hct40 (N : Nat) : CTOK gd P (ct40 N) := .cons (o'bm N) (hct39 N)

noncomputable def i'bn (N : Nat) : Fi := { loans := 0, owns := true, results := [.tmp 2], rtys := [4], blks := [], regs := [], masks := [] }
noncomputable def b'bn : Code := match Tryz.f124.body with | some c => c | none => .skip
noncomputable def p'bn : Pt := ⟨[(.i .str)], []⟩
noncomputable def z'bn (F : type_of% @impl_wholeDigits) (v : p'bn.V) (K : KF α) : Option α := F N v.1.1 (fun o0_0 => K (.iv .bool o0_0) [])
noncomputable def g'bn (v : p'bn.V) (K : KF α) : Option α := z'bn N @impl_wholeDigits v K
theorem e'bn (v : p'bn.V) (K : KF α) : runFn env (ct40 N) (i'bn N) Tryz.f124 (SP.mkL p'bn.slots v.1) (BP.mkL p'bn.store v.2) K = g'bn N v K := Eq.trans (b := z'bn N @impl_wholeDigits.b v K) (by kernel_rfl) (by unfold g'bn; rw [impl_wholeDigits.eq])
theorem o'bn (N : Nat) : CalleeOK gd P 124 (mkCallee false p'bn (g'bn N)) :=
  callee_ok fun v K h => fn_snd hE hP (hct40 N) Tryz.func124 (by kernel_rfl) (body := b'bn) (by kernel_rfl) (by kernel_rfl) (AllOK.of (F := i'bn N) (l := []) (by kernel_rfl) .nil) (loans := BP.mkL p'bn.store v.2) rfl ((e'bn N v K).trans h)
noncomputable def ct41 (N : Nat) : CT := (124, (mkCallee false p'bn (g'bn N))) :: ct40 N
theorem hct41 (N : Nat) : CTOK gd P (ct41 N) := .cons (o'bn N) (hct40 N)

noncomputable def i'bo (N : Nat) : Fi := { loans := 0, owns := true, results := [.tmp 4], rtys := [4], blks := [], regs := [], masks := [] }
noncomputable def b'bo : Code := match Tryz.f120.body with | some c => c | none => .skip
noncomputable def p'bo : Pt := ⟨[(.i .str), (.i .str)], []⟩
noncomputable def z'bo (F : type_of% @internal_stringslite_HasPrefix) (v : p'bo.V) (K : KF α) : Option α := F N v.1.1 v.1.2.1 (fun o0_0 => K (.iv .bool o0_0) [])
noncomputable def g'bo (v : p'bo.V) (K : KF α) : Option α := z'bo N @internal_stringslite_HasPrefix v K
theorem e'bo (v : p'bo.V) (K : KF α) : runFn env (ct41 N) (i'bo N) Tryz.f120 (SP.mkL p'bo.slots v.1) (BP.mkL p'bo.store v.2) K = g'bo N v K := Eq.trans (b := z'bo N @internal_stringslite_HasPrefix.b v K) (by kernel_rfl) (by unfold g'bo; rw [internal_stringslite_HasPrefix.eq])
theorem o'bo (N : Nat) : CalleeOK gd P 120 (mkCallee false p'bo (g'bo N)) :=
  callee_ok fun v K h => fn_snd hE hP (hct41 N) Tryz.func120 (by kernel_rfl) (body := b'bo) (by kernel_rfl) (by kernel_rfl) (AllOK.of (F := i'bo N) (l := []) (by kernel_rfl) .nil) (loans := BP.mkL p'bo.store v.2) rfl ((e'bo N v K).trans h)
noncomputable def ct42 (N : Nat) : CT := (120, (mkCallee false p'bo (g'bo N))) :: ct41 N
theorem hct42 (N : Nat) : CTOK gd P (ct42 N) := .cons (o'bo N) (hct41 N)

noncomputable def i'bp (N : Nat) : Fi := { loans := 0, owns := true, results := [.tmp 4, .tmp 5], rtys := [9, 4], blks := [], regs := [], masks := [] }
noncomputable def b'bp : Code := match Tryz.f68.body with | some c => c | none => .skip
noncomputable def p'bp : Pt := ⟨[(.i .str), (.i .str)], []⟩
noncomputable def z'bp (F : type_of% @internal_stringslite_CutPrefix) (v : p'bp.V) (K : KF α) : Option α := F N v.1.1 v.1.2.1 (fun o0_0 o0_1 => K (.tuple [(.iv .str o0_0), (.iv .bool o0_1)]) [])
noncomputable def g'bp (v : p'bp.V) (K : KF α) : Option α := z'bp N @internal_stringslite_CutPrefix v K
theorem e'bp (v : p'bp.V) (K : KF α) : runFn env (ct42 N) (i'bp N) Tryz.f68 (SP.mkL p'bp.slots v.1) (BP.mkL p'bp.store v.2) K = g'bp N v K := Eq.trans (b := z'bp N @internal_stringslite_CutPrefix.b v K) (by kernel_rfl) (by unfold g'bp; rw [internal_stringslite_CutPrefix.eq])
theorem o'bp (N : Nat) : CalleeOK gd P 68 (mkCallee false p'bp (g'bp N)) :=
  callee_ok fun v K h => fn_snd hE hP (hct42 N) Tryz.func68 (by kernel_rfl) (body := b'bp) (by kernel_rfl) (by kernel_rfl) (AllOK.of (F := i'bp N) (l := []) (by kernel_rfl) .nil) (loans := BP.mkL p'bp.store v.2) rfl ((e'bp N v K).trans h)
noncomputable def ct43 (N : Nat) : CT := (68, (mkCallee false p'bp (g'bp N))) :: ct42 N
theorem hct43 (N : Nat) : CTOK gd P (ct43 N) := .cons (o'bp N) (hct42 N)

noncomputable def i'bq (N : Nat) : Fi := { loans := 0, owns := true, results := [.tmp 4, .tmp 5], rtys := [9, 4], blks := [], regs := [], masks := [] }
noncomputable def b'bq : Code := match Tryz.f31.body with | some c => c | none => .skip
noncomputable def p'bq : Pt := ⟨[(.i .str), (.i .str)], []⟩
noncomputable def z'bq (F : type_of% @strings_CutPrefix) (v : p'bq.V) (K : KF α) : Option α := F N v.1.1 v.1.2.1 (fun o0_0 o0_1 => K (.tuple [(.iv .str o0_0), (.iv .bool o0_1)]) [])
noncomputable def g'bq (v : p'bq.V) (K : KF α) : Option α := z'bq N @strings_CutPrefix v K
theorem e'bq (v : p'bq.V) (K : KF α) : runFn env (ct43 N) (i'bq N) Tryz.f31 (SP.mkL p'bq.slots v.1) (BP.mkL p'bq.store v.2) K = g'bq N v K := Eq.trans (b := z'bq N @strings_CutPrefix.b v K) (by kernel_rfl) (by unfold g'bq; rw [strings_CutPrefix.eq])
theorem o'bq (N : Nat) : CalleeOK gd P 31 (mkCallee false p'bq (g'bq N)) :=
  callee_ok fun v K h => fn_snd hE hP (hct43 N) Tryz.func31 (by kernel_rfl) (body := b'bq) (by kernel_rfl) (by kernel_rfl) (AllOK.of (F := i'bq N) (l := []) (by kernel_rfl) .nil) (loans := BP.mkL p'bq.store v.2) rfl ((e'bq N v K).trans h)
noncomputable def ct44 (N : Nat) : CT := (31, (mkCallee false p'bq (g'bq N))) :: ct43 N
theorem hct44 (N : Nat) : CTOK gd P (ct44 N) := .cons (o'bq N) (hct43 N)

noncomputable def p'br : Pt := ⟨[.i .str], []⟩
noncomputable def g'br (N : Nat) {α : Type} (v : p'br.V) (K : HV → List Blk → Option α) : Option α := strconv_Atoi N v.1.1 (fun x => K (.tuple [.iv (.int .i64) x, .er false]) []) (fun x => K (.tuple [.iv (.int .i64) x, .er true]) [])
theorem o'br (N : Nat) : CalleeOK gd P 125 (mkCallee false p'br (g'br N)) :=
  callee_atoi (gd := gd) lays172 (by kernel_rfl) Tryz.func125 (by kernel_rfl) (by kernel_rfl) (g1 := 3) (g2 := 4) (by kernel_rfl) (by kernel_rfl) (fun w h => errGd_err (.head _) h) (fun w h => errGd_err (.tail _ (.head _)) h) N
noncomputable def ct45 (N : Nat) : CT := (125, (mkCallee false p'br (g'br N))) :: ct44 N
theorem hct45 (N : Nat) : CTOK gd P (ct45 N) := .cons (o'br N) (hct44 N)

noncomputable def p'bs : Pt := ⟨[.u, .u, .u, .u, .u, .u, .u, .u, .u, (.i .str), (.i .str), .u, .u, (.i .bool), (.i (.int .i64)), .u, .u, .u, .u, .u, .u, .u, .u, .u, .u, .u, .u, .u, .u, .u, .u, .u, .u, .u, .u, .u, .u, .u, .u, .u, .u, .u, .u, .u, .u, .u, .u, .u, .u, .u, .u, .u, .u, .u, .u, .u, .u, .u, .u, .u, .u, .u, .u, .u, .u, .u, .u, .u, .u, .u, .u, .u, .u, .u, .u, .u, .u, .u, .u, .u, .u, .u], []⟩
noncomputable def z'bs (F : type_of% @impl_literal_J11) (v : p'bs.V) (K : KO α) : Option α := F N v.1.2.2.2.2.2.2.2.2.2.1 v.1.2.2.2.2.2.2.2.2.2.2.1 v.1.2.2.2.2.2.2.2.2.2.2.2.2.2.1 v.1.2.2.2.2.2.2.2.2.2.2.2.2.2.2.1 (fun o0_0 o0_1 o0_2 => K (.normal ⟨(us 9 [(.iv .str o0_0), (.iv .str o0_1), U, U, U, (.iv (.int .i64) o0_2), U, U, U, U, U, U, U, U, U, U, U, U, U, U, U, U, U, U, U, U, U, U, U, U, U, U, U, U, U, U, U, U, U, U, U, U, U, U, U, U, U, U, U, U, U, U, U, U, U, U, U, U, U, U, U, U, U, U, U, U, U, U, U, U, U, U, U]), []⟩))
noncomputable def g'bs (v : p'bs.V) (K : KO α) : Option α := z'bs N @impl_literal_J11 v K
noncomputable def q'bs (N : Nat) : Piece := (mkPiece 336855040 p'bs (g'bs N))
noncomputable def i'bt (N : Nat) : Fi := { loans := 0, owns := true, results := [.tmp 2, .tmp 3, .tmp 4, .tmp 5], rtys := [9, 9, 3, 4], blks := [], regs := [(11, q'bs N)], masks := [] }
noncomputable def b'bt : Code := match Tryz.f79.body with | some c => c | none => .skip
theorem e'bs (v : p'bs.V) (K : KO α) : runSeq env (ct45 N) (i'bt N) 269746176 (.seq (codeAt b'bt [1, 1, 1, 1, 1, 1, 1, 1, 0, 0]) (codeAt b'bt [1, 1, 1, 1, 1, 1, 1, 1, 0, 1])) (p'bs.mk' v) K = g'bs N v K := Eq.trans (b := z'bs N @impl_literal_J11.b v K) (by kernel_rfl) (by unfold g'bs; rw [impl_literal_J11.eq])
theorem o'bs (N : Nat) : PieceOK gd P (i'bt N) (.seq (codeAt b'bt [1, 1, 1, 1, 1, 1, 1, 1, 0, 0]) (codeAt b'bt [1, 1, 1, 1, 1, 1, 1, 1, 0, 1])) (mkPiece 336855040 p'bs (g'bs N)) :=
  piece_seq hE hP (hct45 N) (AllOK.of (F := i'bt N) (l := []) (by kernel_rfl) .nil) (AllOK.of (F := i'bt N) (l := []) (by kernel_rfl) .nil) (e'bs N)
theorem oq'bs (N : Nat) : PieceOK gd P (i'bt N) (.seq (codeAt b'bt [1, 1, 1, 1, 1, 1, 1, 1, 0, 0]) (codeAt b'bt [1, 1, 1, 1, 1, 1, 1, 1, 0, 1])) (q'bs N) := (o'bs N)
noncomputable def p'bt : Pt := ⟨[(.i .str)], []⟩
noncomputable def z'bt (F : type_of% @impl_literal) (v : p'bt.V) (K : KF α) : Option α := F N v.1.1 (fun o0_0 o0_1 o0_2 o0_3 => K (.tuple [(.iv .str o0_0), (.iv .str o0_1), (.iv (.int .i64) o0_2), (.iv .bool o0_3)]) [])
noncomputable def g'bt (v : p'bt.V) (K : KF α) : Option α := z'bt N @impl_literal v K
theorem e'bt (v : p'bt.V) (K : KF α) : runFn env (ct45 N) (i'bt N) Tryz.f79 (SP.mkL p'bt.slots v.1) (BP.mkL p'bt.store v.2) K = g'bt N v K := Eq.trans (b := z'bt N @impl_literal.b v K) (by kernel_rfl) (by unfold g'bt; rw [impl_literal.eq])
theorem o'bt (N : Nat) : CalleeOK gd P 79 (mkCallee false p'bt (g'bt N)) :=
  callee_ok fun v K h => fn_snd hE hP (hct45 N) Tryz.func79 (by kernel_rfl) (body := b'bt) (by kernel_rfl) (by kernel_rfl) (AllOK.of (F := i'bt N) (l := [((.seq (codeAt b'bt [1, 1, 1, 1, 1, 1, 1, 1, 0, 0]) (codeAt b'bt [1, 1, 1, 1, 1, 1, 1, 1, 0, 1])), q'bs N)]) (by kernel_rfl) (.cons (oq'bs N) .nil)) (loans := BP.mkL p'bt.store v.2) rfl ((e'bt N v K).trans h)
noncomputable def ct46 (N : Nat) : CT := (79, (mkCallee false p'bt (g'bt N))) :: ct45 N
theorem hct46 (N : Nat) : CTOK gd P (ct46 N) := .cons (o'bt N) (hct45 N)

noncomputable def i'bu (N : Nat) : Fi := { loans := 0, owns := true, results := [.tmp 2], rtys := [4], blks := [], regs := [], masks := [] }
noncomputable def b'bu : Code := match Tryz.f78.body with | some c => c | none => .skip
noncomputable def p'bu : Pt := ⟨[(.i .str)], []⟩
noncomputable def z'bu (F : type_of% @impl_DecOk) (v : p'bu.V) (K : KF α) : Option α := F N v.1.1 (fun o0_0 => K (.iv .bool o0_0) [])
noncomputable def g'bu (v : p'bu.V) (K : KF α) : Option α := z'bu N @impl_DecOk v K
theorem e'bu (v : p'bu.V) (K : KF α) : runFn env (ct46 N) (i'bu N) Tryz.f78 (SP.mkL p'bu.slots v.1) (BP.mkL p'bu.store v.2) K = g'bu N v K := Eq.trans (b := z'bu N @impl_DecOk.b v K) (by kernel_rfl) (by unfold g'bu; rw [impl_DecOk.eq])
theorem o'bu (N : Nat) : CalleeOK gd P 78 (mkCallee false p'bu (g'bu N)) :=
  callee_ok fun v K h => fn_snd hE hP (hct46 N) Tryz.func78 (by kernel_rfl) (body := b'bu) (by kernel_rfl) (by kernel_rfl) (AllOK.of (F := i'bu N) (l := []) (by kernel_rfl) .nil) (loans := BP.mkL p'bu.store v.2) rfl ((e'bu N v K).trans h)
noncomputable def ct47 (N : Nat) : CT := (78, (mkCallee false p'bu (g'bu N))) :: ct46 N
theorem hct47 (N : Nat) : CTOK gd P (ct47 N) := .cons (o'bu N) (hct46 N)

noncomputable def p'bv : Pt := ⟨[(.i (.sl (.int .i64))), .u, .u, .u, .u, .u, .u, .u, .u, .u, .u, .u, .u, .u, .u, .u, .u, .u, .u, .u, .u], []⟩
noncomputable def g'bv (n : Nat) (v : p'bv.V) (K : KO α) : Option α := impl_trim_L0 N n v.1.1 (fun o0_0 => K (.normal ⟨[(.iv (.sl (.int .i64)) o0_0), U, U, U, U, U, U, U, U, U, U, U, U, U, U, U, U, U, U, U, U], []⟩))
noncomputable def q'bv (N : Nat) : Piece := (mkPiece 1 p'bv (g'bv N N))
noncomputable def i'bw (N : Nat) : Fi := { loans := 0, owns := true, results := [.tmp 2], rtys := [23], blks := [(0, q'bv N)], regs := [], masks := [(0, 1)] }
noncomputable def b'bw : Code := match Tryz.f105.body with | some c => c | none => .skip
theorem e'bv (n : Nat) (v : p'bv.V) (K : KO α) : runRound env (ct47 N) (i'bw N) 1 (mkPiece 1 p'bv (g'bv N n)).run (.block 0 (.loop (codeAt b'bw [1, 0, 0, 0]))) (p'bv.mk' v) K = g'bv N (n + 1) v K := Eq.trans (b := impl_trim_L0r N (fun y0 => impl_trim_L0 N n y0 (fun o0_0 => K (.normal ⟨[(.iv (.sl (.int .i64)) o0_0), U, U, U, U, U, U, U, U, U, U, U, U, U, U, U, U, U, U, U, U], []⟩))) (fun o0_0 => K (.normal ⟨[(.iv (.sl (.int .i64)) o0_0), U, U, U, U, U, U, U, U, U, U, U, U, U, U, U, U, U, U, U, U], []⟩)) v.1.1) (by kernel_rfl) (by unfold g'bv; rw [impl_trim_L0.succ])
theorem o'bv (N : Nat) : PieceOK gd P (i'bw N) (.block 0 (.loop (codeAt b'bw [1, 0, 0, 0]))) (mkPiece 1 p'bv (g'bv N N)) :=
  piece_loop hE hP (hct47 N) (AllOK.of (F := i'bw N) (l := []) (by kernel_rfl) .nil) (fun n {_} => g'bv N n) (fun _ _ => by unfold g'bv; rw [impl_trim_L0.zero]) (fun n {_} v K => e'bv N n v K) N
theorem oq'bv (N : Nat) : PieceOK gd P (i'bw N) (.block 0 (.loop (codeAt b'bw [1, 0, 0, 0]))) (q'bv N) := (o'bv N)
noncomputable def p'bw : Pt := ⟨[(.i (.sl (.int .i64)))], []⟩
noncomputable def z'bw (F : type_of% @impl_trim) (v : p'bw.V) (K : KF α) : Option α := F N v.1.1 (fun o0_0 => K (.iv (.sl (.int .i64)) o0_0) [])
noncomputable def g'bw (v : p'bw.V) (K : KF α) : Option α := z'bw N @impl_trim v K
theorem e'bw (v : p'bw.V) (K : KF α) : runFn env (ct47 N) (i'bw N) Tryz.f105 (SP.mkL p'bw.slots v.1) (BP.mkL p'bw.store v.2) K = g'bw N v K := Eq.trans (b := z'bw N @impl_trim.b v K) (by kernel_rfl) (by unfold g'bw; rw [impl_trim.eq])
theorem o'bw (N : Nat) : CalleeOK gd P 105 (mkCallee false p'bw (g'bw N)) :=
  callee_ok fun v K h => fn_snd hE hP (hct47 N) Tryz.func105 (by kernel_rfl) (body := b'bw) (by kernel_rfl) (by kernel_rfl) (AllOK.of (F := i'bw N) (l := [((.block 0 (.loop (codeAt b'bw [1, 0, 0, 0]))), q'bv N)]) (by kernel_rfl) (.cons (oq'bv N) .nil)) (loans := BP.mkL p'bw.store v.2) rfl ((e'bw N v K).trans h)
noncomputable def ct48 (N : Nat) : CT := (105, (mkCallee false p'bw (g'bw N))) :: ct47 N
theorem hct48 (N : Nat) : CTOK gd P (ct48 N) := .cons (o'bw N) (hct47 N)

noncomputable def p'bx : Pt := ⟨[.u, (.i (.sl (.int .i64))), .u, .u, .u, (.o 0), (.i (.int .i64)), (.i (.int .i64)), (.i (.int .i64)), .u, .u, .u, .u, .u, .u, .u, .u, .u, .u, (.i (.sl (.int .i64))), (.i (.int .i64)), (.i (.int .i64)), .u, .u, .u, .u, (.i (.sl (.int .i64))), (.i (.int .i64)), (.i (.int .i64)), .u, .u, .u, .u, .u, .u, .u, .u, .u, .u, .u, .u, .u, .u, .u, .u, .u, .u, .u, .u, .u, .u, .u, .u, .u, .u, .u, .u, .u, .u, .u, .u, .u, .u, .u, .u, .u, .u, .u], [(.arr 3 (.int .i64) false)]⟩
noncomputable def g'bx (n : Nat) (v : p'bx.V) (K : KO α) : Option α := impl_natMul_L2 N n v.1.2.1 v.1.2.2.2.2.2.2.1 v.1.2.2.2.2.2.2.2.1 v.1.2.2.2.2.2.2.2.2.1 v.1.2.2.2.2.2.2.2.2.2.2.2.2.2.2.2.2.2.2.2.1 v.1.2.2.2.2.2.2.2.2.2.2.2.2.2.2.2.2.2.2.2.2.1 v.1.2.2.2.2.2.2.2.2.2.2.2.2.2.2.2.2.2.2.2.2.2.1 v.1.2.2.2.2.2.2.2.2.2.2.2.2.2.2.2.2.2.2.2.2.2.2.2.2.2.2.1 v.1.2.2.2.2.2.2.2.2.2.2.2.2.2.2.2.2.2.2.2.2.2.2.2.2.2.2.2.1 v.1.2.2.2.2.2.2.2.2.2.2.2.2.2.2.2.2.2.2.2.2.2.2.2.2.2.2.2.2.1 v.2.1 (fun o0_0 o0_1 o0_2 o0_3 o0_4 o0_5 o0_6 => K (.normal ⟨[U, (.iv (.sl (.int .i64)) o0_0), U, U, U, (.own 0), (.iv (.int .i64) o0_1), U, (.iv (.int .i64) o0_2), U, U, U, U, U, U, U, U, U, U, (.iv (.sl (.int .i64)) o0_3), (.iv (.int .i64) o0_4), (.iv (.int .i64) o0_5), U, U, U, U, U, U, U, U, U, U, U, U, U, U, U, U, U, U, U, U, U, U, U, U, U, U, U, U, U, U, U, U, U, U, U, U, U, U, U, U, U, U, U, U, U, U], [(.arr 3 (.int .i64) o0_6 false)]⟩))
noncomputable def p'by : Pt := ⟨[.u, (.i (.sl (.int .i64))), .u, .u, .u, (.o 0), .u, .u, .u, .u, .u, .u, .u, .u, .u, .u, .u, .u, .u, (.i (.sl (.int .i64))), (.i (.int .i64)), (.i (.int .i64)), .u, .u, .u, .u, .u, .u, .u, .u, .u, .u, .u, .u, .u, .u, .u, .u, .u, .u, .u, .u, .u, .u, .u, .u, .u, .u, .u, .u, .u, .u, .u, .u, .u, .u, .u, .u, .u, .u, .u, .u, .u, .u, .u, .u, .u, .u], [(.arr 3 (.int .i64) false)]⟩
noncomputable def g'by (n : Nat) (v : p'by.V) (K : KO α) : Option α := impl_natMul_L0 N n v.1.2.1 v.1.2.2.2.2.2.2.2.2.2.2.2.2.2.2.2.2.2.2.2.1 v.1.2.2.2.2.2.2.2.2.2.2.2.2.2.2.2.2.2.2.2.2.1 v.1.2.2.2.2.2.2.2.2.2.2.2.2.2.2.2.2.2.2.2.2.2.1 v.2.1 (fun o0_0 => K (.normal ⟨(us 5 [(.own 0), U, U, U, U, U, U, U, U, U, U, U, U, U, U, U, U, U, U, U, U, U, U, U, U, U, U, U, U, U, U, U, U, U, U, U, U, U, U, U, U, U, U, U, U, U, U, U, U, U, U, U, U, U, U, U, U, U, U, U, U, U, U]), [(.arr 3 (.int .i64) o0_0 false)]⟩))
noncomputable def q'bx (N : Nat) : Piece := (mkPiece 94581364610913284 p'bx (g'bx N N))
noncomputable def q'by (N : Nat) : Piece := (mkPiece 5772436046852 p'by (g'by N N))
noncomputable def i'bz (N : Nat) : Fi := { loans := 0, owns := true, results := [.tmp 4], rtys := [23], blks := [(2, q'bx N), (0, q'by N)], regs := [], masks := [(0, 1024), (2, 5772436116484)] }
noncomputable def b'bz : Code := match Tryz.f82.body with | some c => c | none => .skip
theorem e'bx (n : Nat) (v : p'bx.V) (K : KO α) : runRound env (ct48 N) (i'bz N) 94581364610913284 (mkPiece 94581364610913284 p'bx (g'bx N n)).run (.block 2 (.loop (codeAt b'bz [1, 1, 0, 1, 0, 0, 1, 1, 0, 0, 1, 1, 0, 1, 0, 0]))) (p'bx.mk' v) K = g'bx N (n + 1) v K := Eq.trans (b := impl_natMul_L2r N (fun y0 y1 y2 y3 y4 y5 y6 y7 y8 y9 y10 => impl_natMul_L2 N n y0 y1 y2 y3 y4 y5 y6 y7 y8 y9 y10 (fun o0_0 o0_1 o0_2 o0_3 o0_4 o0_5 o0_6 => K (.normal ⟨[U, (.iv (.sl (.int .i64)) o0_0), U, U, U, (.own 0), (.iv (.int .i64) o0_1), U, (.iv (.int .i64) o0_2), U, U, U, U, U, U, U, U, U, U, (.iv (.sl (.int .i64)) o0_3), (.iv (.int .i64) o0_4), (.iv (.int .i64) o0_5), U, U, U, U, U, U, U, U, U, U, U, U, U, U, U, U, U, U, U, U, U, U, U, U, U, U, U, U, U, U, U, U, U, U, U, U, U, U, U, U, U, U, U, U, U, U], [(.arr 3 (.int .i64) o0_6 false)]⟩))) (fun o0_0 o0_1 o0_2 o0_3 o0_4 o0_5 o0_6 => K (.normal ⟨[U, (.iv (.sl (.int .i64)) o0_0), U, U, U, (.own 0), (.iv (.int .i64) o0_1), U, (.iv (.int .i64) o0_2), U, U, U, U, U, U, U, U, U, U, (.iv (.sl (.int .i64)) o0_3), (.iv (.int .i64) o0_4), (.iv (.int .i64) o0_5), U, U, U, U, U, U, U, U, U, U, U, U, U, U, U, U, U, U, U, U, U, U, U, U, U, U, U, U, U, U, U, U, U, U, U, U, U, U, U, U, U, U, U, U, U, U], [(.arr 3 (.int .i64) o0_6 false)]⟩)) v.1.2.1 v.1.2.2.2.2.2.2.1 v.1.2.2.2.2.2.2.2.1 v.1.2.2.2.2.2.2.2.2.1 v.1.2.2.2.2.2.2.2.2.2.2.2.2.2.2.2.2.2.2.2.1 v.1.2.2.2.2.2.2.2.2.2.2.2.2.2.2.2.2.2.2.2.2.1 v.1.2.2.2.2.2.2.2.2.2.2.2.2.2.2.2.2.2.2.2.2.2.1 v.1.2.2.2.2.2.2.2.2.2.2.2.2.2.2.2.2.2.2.2.2.2.2.2.2.2.2.1 v.1.2.2.2.2.2.2.2.2.2.2.2.2.2.2.2.2.2.2.2.2.2.2.2.2.2.2.2.1 v.1.2.2.2.2.2.2.2.2.2.2.2.2.2.2.2.2.2.2.2.2.2.2.2.2.2.2.2.2.1 v.2.1) (by kernel_rfl) (by unfold g'bx; rw [impl_natMul_L2.succ])
theorem o'bx (N : Nat) : PieceOK gd P (i'bz N) (.block 2 (.loop (codeAt b'bz [1, 1, 0, 1, 0, 0, 1, 1, 0, 0, 1, 1, 0, 1, 0, 0]))) (mkPiece 94581364610913284 p'bx (g'bx N N)) :=
  piece_loop hE hP (hct48 N) (AllOK.of (F := i'bz N) (l := []) (by kernel_rfl) .nil) (fun n {_} => g'bx N n) (fun _ _ => by unfold g'bx; rw [impl_natMul_L2.zero]) (fun n {_} v K => e'bx N n v K) N
theorem oq'bx (N : Nat) : PieceOK gd P (i'bz N) (.block 2 (.loop (codeAt b'bz [1, 1, 0, 1, 0, 0, 1, 1, 0, 0, 1, 1, 0, 1, 0, 0]))) (q'bx N) := (o'bx N)
theorem e'by (n : Nat) (v : p'by.V) (K : KO α) : runRound env (ct48 N) (i'bz N) 5772436046852 (mkPiece 5772436046852 p'by (g'by N n)).run (.block 0 (.loop (codeAt b'bz [1, 1, 0, 1, 0, 0]))) (p'by.mk' v) K = g'by N (n + 1) v K := Eq.trans (b := impl_natMul_L0r N (fun y0 y1 y2 y3 y4 => impl_natMul_L0 N n y0 y1 y2 y3 y4 (fun o0_0 => K (.normal ⟨(us 5 [(.own 0), U, U, U, U, U, U, U, U, U, U, U, U, U, U, U, U, U, U, U, U, U, U, U, U, U, U, U, U, U, U, U, U, U, U, U, U, U, U, U, U, U, U, U, U, U, U, U, U, U, U, U, U, U, U, U, U, U, U, U, U, U, U]), [(.arr 3 (.int .i64) o0_0 false)]⟩))) (fun o0_0 => K (.normal ⟨(us 5 [(.own 0), U, U, U, U, U, U, U, U, U, U, U, U, U, U, U, U, U, U, U, U, U, U, U, U, U, U, U, U, U, U, U, U, U, U, U, U, U, U, U, U, U, U, U, U, U, U, U, U, U, U, U, U, U, U, U, U, U, U, U, U, U, U]), [(.arr 3 (.int .i64) o0_0 false)]⟩)) v.1.2.1 v.1.2.2.2.2.2.2.2.2.2.2.2.2.2.2.2.2.2.2.2.1 v.1.2.2.2.2.2.2.2.2.2.2.2.2.2.2.2.2.2.2.2.2.1 v.1.2.2.2.2.2.2.2.2.2.2.2.2.2.2.2.2.2.2.2.2.2.1 v.2.1) (by kernel_rfl) (by unfold g'by; rw [impl_natMul_L0.succ])
theorem o'by (N : Nat) : PieceOK gd P (i'bz N) (.block 0 (.loop (codeAt b'bz [1, 1, 0, 1, 0, 0]))) (mkPiece 5772436046852 p'by (g'by N N)) :=
  piece_loop hE hP (hct48 N) (AllOK.of (F := i'bz N) (l := [((.block 2 (.loop (codeAt b'bz [1, 1, 0, 1, 0, 0, 1, 1, 0, 0, 1, 1, 0, 1, 0, 0]))), q'bx N)]) (by kernel_rfl) (.cons (oq'bx N) .nil)) (fun n {_} => g'by N n) (fun _ _ => by unfold g'by; rw [impl_natMul_L0.zero]) (fun n {_} v K => e'by N n v K) N
theorem oq'by (N : Nat) : PieceOK gd P (i'bz N) (.block 0 (.loop (codeAt b'bz [1, 1, 0, 1, 0, 0]))) (q'by N) := (o'by N)
noncomputable def p'bz : Pt := ⟨[(.i (.sl (.int .i64))), (.i (.sl (.int .i64)))], []⟩
noncomputable def z'bz (F : type_of% @impl_natMul) (v : p'bz.V) (K : KF α) : Option α := F N v.1.1 v.1.2.1 (fun o0_0 => K (.iv (.sl (.int .i64)) o0_0) [])
noncomputable def g'bz (v : p'bz.V) (K : KF α) : Option α := z'bz N @impl_natMul v K
theorem e'bz (v : p'bz.V) (K : KF α) : runFn env (ct48 N) (i'bz N) Tryz.f82 (SP.mkL p'bz.slots v.1) (BP.mkL p'bz.store v.2) K = g'bz N v K := Eq.trans (b := z'bz N @impl_natMul.b v K) (by kernel_rfl) (by unfold g'bz; rw [impl_natMul.eq])
theorem o'bz (N : Nat) : CalleeOK gd P 82 (mkCallee false p'bz (g'bz N)) :=
  callee_ok fun v K h => fn_snd hE hP (hct48 N) Tryz.func82 (by kernel_rfl) (body := b'bz) (by kernel_rfl) (by kernel_rfl) (AllOK.of (F := i'bz N) (l := [((.block 0 (.loop (codeAt b'bz [1, 1, 0, 1, 0, 0]))), q'by N)]) (by kernel_rfl) (.cons (oq'by N) .nil)) (loans := BP.mkL p'bz.store v.2) rfl ((e'bz N v K).trans h)
noncomputable def ct49 (N : Nat) : CT := (82, (mkCallee false p'bz (g'bz N))) :: ct48 N
theorem hct49 (N : Nat) : CTOK gd P (ct49 N) := .cons (o'bz N) (hct48 N)

noncomputable def p'bA : Pt := ⟨[(.i (.int .u64)), .u, .u, (.o 0), .u, .u, .u, .u, .u, .u, .u, .u, .u, .u, .u], [(.arr 3 (.int .i64) false)]⟩
noncomputable def g'bA (n : Nat) (v : p'bA.V) (K : KO α) : Option α := impl_natOf_L0 N n v.1.1 v.2.1 (fun o0_0 => K (.normal ⟨[U, U, U, (.own 0), U, U, U, U, U, U, U, U, U, U, U], [(.arr 3 (.int .i64) o0_0 false)]⟩))
noncomputable def q'bA (N : Nat) : Piece := (mkPiece 65 p'bA (g'bA N N))
noncomputable def i'bB (N : Nat) : Fi := { loans := 0, owns := true, results := [.tmp 2], rtys := [23], blks := [(0, q'bA N)], regs := [], masks := [(0, 64)] }
noncomputable def b'bB : Code := match Tryz.f91.body with | some c => c | none => .skip
theorem e'bA (n : Nat) (v : p'bA.V) (K : KO α) : runRound env (ct49 N) (i'bB N) 65 (mkPiece 65 p'bA (g'bA N n)).run (.block 0 (.loop (codeAt b'bB [1, 1, 0, 0, 0]))) (p'bA.mk' v) K = g'bA N (n + 1) v K := Eq.trans (b := impl_natOf_L0r N (fun y0 y1 => impl_natOf_L0 N n y0 y1 (fun o0_0 => K (.normal ⟨[U, U, U, (.own 0), U, U, U, U, U, U, U, U, U, U, U], [(.arr 3 (.int .i64) o0_0 false)]⟩))) (fun o0_0 => K (.normal ⟨[U, U, U, (.own 0), U, U, U, U, U, U, U, U, U, U, U], [(.arr 3 (.int .i64) o0_0 false)]⟩)) v.1.1 v.2.1) (by kernel_rfl) (by unfold g'bA; rw [impl_natOf_L0.succ])
theorem o'bA (N : Nat) : PieceOK gd P (i'bB N) (.block 0 (.loop (codeAt b'bB [1, 1, 0, 0, 0]))) (mkPiece 65 p'bA (g'bA N N)) :=
  piece_loop hE hP (hct49 N) (AllOK.of (F := i'bB N) (l := []) (by kernel_rfl) .nil) (fun n {_} => g'bA N n) (fun _ _ => by unfold g'bA; rw [impl_natOf_L0.zero]) (fun n {_} v K => e'bA N n v K) N
theorem oq'bA (N : Nat) : PieceOK gd P (i'bB N) (.block 0 (.loop (codeAt b'bB [1, 1, 0, 0, 0]))) (q'bA N) := (o'bA N)
noncomputable def p'bB : Pt := ⟨[(.i (.int .u64))], []⟩
noncomputable def z'bB (F : type_of% @impl_natOf) (v : p'bB.V) (K : KF α) : Option α := F N v.1.1 (fun o0_0 => K (.own 0) [(.arr 3 (.int .i64) o0_0 false)])
noncomputable def g'bB (v : p'bB.V) (K : KF α) : Option α := z'bB N @impl_natOf v K
theorem e'bB (v : p'bB.V) (K : KF α) : runFn env (ct49 N) (i'bB N) Tryz.f91 (SP.mkL p'bB.slots v.1) (BP.mkL p'bB.store v.2) K = g'bB N v K := Eq.trans (b := z'bB N @impl_natOf.b v K) (by kernel_rfl) (by unfold g'bB; rw [impl_natOf.eq])
theorem o'bB (N : Nat) : CalleeOK gd P 91 (mkCallee false p'bB (g'bB N)) :=
  callee_ok fun v K h => fn_snd hE hP (hct49 N) Tryz.func91 (by kernel_rfl) (body := b'bB) (by kernel_rfl) (by kernel_rfl) (AllOK.of (F := i'bB N) (l := [((.block 0 (.loop (codeAt b'bB [1, 1, 0, 0, 0]))), q'bA N)]) (by kernel_rfl) (.cons (oq'bA N) .nil)) (loans := BP.mkL p'bB.store v.2) rfl ((e'bB N v K).trans h)
noncomputable def ct50 (N : Nat) : CT := (91, (mkCallee false p'bB (g'bB N))) :: ct49 N
theorem hct50 (N : Nat) : CTOK gd P (ct50 N) := .cons (o'bB N) (hct49 N)

noncomputable def p'bC : Pt := ⟨[.u, .u, .u, .u, .u, (.o 0), .u, .u, .u, .u, .u, .u, .u, .u, .u, .u, .u, .u, .u, (.i (.sl (.int .i64))), (.i (.int .i64)), (.i (.int .i64)), .u, .u, .u, .u, .u, .u, .u, .u, .u, .u, .u, .u, .u, .u, .u, .u, .u, .u, .u, .u, .u, .u, .u, .u, .u, .u, .u, .u, .u, .u, .u, .u, .u, .u, .u, .u, .u, .u, .u], [(.arr 3 (.int .i64) false)]⟩
noncomputable def g'bC (n : Nat) (v : p'bC.V) (K : KO α) : Option α := impl_natAdd_L0 N n v.1.2.2.2.2.2.2.2.2.2.2.2.2.2.2.2.2.2.2.2.1 v.1.2.2.2.2.2.2.2.2.2.2.2.2.2.2.2.2.2.2.2.2.1 v.1.2.2.2.2.2.2.2.2.2.2.2.2.2.2.2.2.2.2.2.2.2.1 v.2.1 (fun o0_0 => K (.normal ⟨(us 5 [(.own 0), U, U, U, U, U, U, U, U, U, U, U, U, U, U, U, U, U, U, U, U, U, U, U, U, U, U, U, U, U, U, U, U, U, U, U, U, U, U, U, U, U, U, U, U, U, U, U, U, U, U, U, U, U, U, U]), [(.arr 3 (.int .i64) o0_0 false)]⟩))
noncomputable def p'bD : Pt := ⟨[.u, .u, .u, .u, .u, (.o 0), .u, .u, .u, .u, .u, .u, .u, .u, .u, .u, .u, .u, .u, .u, .u, .u, .u, .u, .u, .u, .u, .u, .u, .u, .u, .u, .u, .u, .u, .u, (.i (.int .i64)), (.i (.int .i64)), .u, .u, .u, .u, .u, .u, .u, .u, .u, .u, .u, .u, .u, .u, .u, .u, .u, .u, .u, .u, .u, .u, .u], [(.arr 3 (.int .i64) false)]⟩
noncomputable def g'bD (n : Nat) (v : p'bD.V) (K : KO α) : Option α := impl_natAdd_L2 N n v.1.2.2.2.2.2.2.2.2.2.2.2.2.2.2.2.2.2.2.2.2.2.2.2.2.2.2.2.2.2.2.2.2.2.2.2.2.1 v.1.2.2.2.2.2.2.2.2.2.2.2.2.2.2.2.2.2.2.2.2.2.2.2.2.2.2.2.2.2.2.2.2.2.2.2.2.2.1 v.2.1 (fun o0_0 => K (.normal ⟨(us 5 [(.own 0), U, U, U, U, U, U, U, U, U, U, U, U, U, U, U, U, U, U, U, U, U, U, U, U, U, U, U, U, U, U, U, U, U, U, U, U, U, U, U, U, U, U, U, U, U, U, U, U, U, U, U, U, U, U, U]), [(.arr 3 (.int .i64) o0_0 false)]⟩))
noncomputable def q'bC (N : Nat) : Piece := (mkPiece 5772436046848 p'bC (g'bC N N))
noncomputable def q'bD (N : Nat) : Piece := (mkPiece 23611832414348226069504 p'bD (g'bD N N))
noncomputable def i'bE (N : Nat) : Fi := { loans := 0, owns := true, results := [.tmp 4], rtys := [23], blks := [(0, q'bC N), (2, q'bD N)], regs := [], masks := [(0, 1024), (2, 1024)] }
noncomputable def b'bE : Code := match Tryz.f123.body with | some c => c | none => .skip
theorem e'bC (n : Nat) (v : p'bC.V) (K : KO α) : runRound env (ct50 N) (i'bE N) 5772436046848 (mkPiece 5772436046848 p'bC (g'bC N n)).run (.block 0 (.loop (codeAt b'bE [1, 1, 1, 0, 1, 0, 0]))) (p'bC.mk' v) K = g'bC N (n + 1) v K := Eq.trans (b := impl_natAdd_L0r N (fun y0 y1 y2 y3 => impl_natAdd_L0 N n y0 y1 y2 y3 (fun o0_0 => K (.normal ⟨(us 5 [(.own 0), U, U, U, U, U, U, U, U, U, U, U, U, U, U, U, U, U, U, U, U, U, U, U, U, U, U, U, U, U, U, U, U, U, U, U, U, U, U, U, U, U, U, U, U, U, U, U, U, U, U, U, U, U, U, U]), [(.arr 3 (.int .i64) o0_0 false)]⟩))) (fun o0_0 => K (.normal ⟨(us 5 [(.own 0), U, U, U, U, U, U, U, U, U, U, U, U, U, U, U, U, U, U, U, U, U, U, U, U, U, U, U, U, U, U, U, U, U, U, U, U, U, U, U, U, U, U, U, U, U, U, U, U, U, U, U, U, U, U, U]), [(.arr 3 (.int .i64) o0_0 false)]⟩)) v.1.2.2.2.2.2.2.2.2.2.2.2.2.2.2.2.2.2.2.2.1 v.1.2.2.2.2.2.2.2.2.2.2.2.2.2.2.2.2.2.2.2.2.1 v.1.2.2.2.2.2.2.2.2.2.2.2.2.2.2.2.2.2.2.2.2.2.1 v.2.1) (by kernel_rfl) (by unfold g'bC; rw [impl_natAdd_L0.succ])
theorem o'bC (N : Nat) : PieceOK gd P (i'bE N) (.block 0 (.loop (codeAt b'bE [1, 1, 1, 0, 1, 0, 0]))) (mkPiece 5772436046848 p'bC (g'bC N N)) :=
  piece_loop hE hP (hct50 N) (AllOK.of (F := i'bE N) (l := []) (by kernel_rfl) .nil) (fun n {_} => g'bC N n) (fun _ _ => by unfold g'bC; rw [impl_natAdd_L0.zero]) (fun n {_} v K => e'bC N n v K) N
theorem oq'bC (N : Nat) : PieceOK gd P (i'bE N) (.block 0 (.loop (codeAt b'bE [1, 1, 1, 0, 1, 0, 0]))) (q'bC N) := (o'bC N)
theorem e'bD (n : Nat) (v : p'bD.V) (K : KO α) : runRound env (ct50 N) (i'bE N) 23611832414348226069504 (mkPiece 23611832414348226069504 p'bD (g'bD N n)).run (.block 2 (.loop (codeAt b'bE [1, 1, 1, 1, 0, 1, 0, 0]))) (p'bD.mk' v) K = g'bD N (n + 1) v K := Eq.trans (b := impl_natAdd_L2r N (fun y0 y1 y2 => impl_natAdd_L2 N n y0 y1 y2 (fun o0_0 => K (.normal ⟨(us 5 [(.own 0), U, U, U, U, U, U, U, U, U, U, U, U, U, U, U, U, U, U, U, U, U, U, U, U, U, U, U, U, U, U, U, U, U, U, U, U, U, U, U, U, U, U, U, U, U, U, U, U, U, U, U, U, U, U, U]), [(.arr 3 (.int .i64) o0_0 false)]⟩))) (fun o0_0 => K (.normal ⟨(us 5 [(.own 0), U, U, U, U, U, U, U, U, U, U, U, U, U, U, U, U, U, U, U, U, U, U, U, U, U, U, U, U, U, U, U, U, U, U, U, U, U, U, U, U, U, U, U, U, U, U, U, U, U, U, U, U, U, U, U]), [(.arr 3 (.int .i64) o0_0 false)]⟩)) v.1.2.2.2.2.2.2.2.2.2.2.2.2.2.2.2.2.2.2.2.2.2.2.2.2.2.2.2.2.2.2.2.2.2.2.2.2.1 v.1.2.2.2.2.2.2.2.2.2.2.2.2.2.2.2.2.2.2.2.2.2.2.2.2.2.2.2.2.2.2.2.2.2.2.2.2.2.1 v.2.1) (by kernel_rfl) (by unfold g'bD; rw [impl_natAdd_L2.succ])
theorem o'bD (N : Nat) : PieceOK gd P (i'bE N) (.block 2 (.loop (codeAt b'bE [1, 1, 1, 1, 0, 1, 0, 0]))) (mkPiece 23611832414348226069504 p'bD (g'bD N N)) :=
  piece_loop hE hP (hct50 N) (AllOK.of (F := i'bE N) (l := []) (by kernel_rfl) .nil) (fun n {_} => g'bD N n) (fun _ _ => by unfold g'bD; rw [impl_natAdd_L2.zero]) (fun n {_} v K => e'bD N n v K) N
theorem oq'bD (N : Nat) : PieceOK gd P (i'bE N) (.block 2 (.loop (codeAt b'bE [1, 1, 1, 1, 0, 1, 0, 0]))) (q'bD N) := (o'bD N)
noncomputable def p'bE : Pt := ⟨[(.i (.sl (.int .i64))), (.i (.sl (.int .i64)))], []⟩
noncomputable def z'bE (F : type_of% @impl_natAdd) (v : p'bE.V) (K : KF α) : Option α := F N v.1.1 v.1.2.1 (fun o0_0 => K (.iv (.sl (.int .i64)) o0_0) [])
noncomputable def g'bE (v : p'bE.V) (K : KF α) : Option α := z'bE N @impl_natAdd v K
theorem e'bE (v : p'bE.V) (K : KF α) : runFn env (ct50 N) (i'bE N) Tryz.f123 (SP.mkL p'bE.slots v.1) (BP.mkL p'bE.store v.2) K = g'bE N v K := Eq.trans (b := z'bE N @impl_natAdd.b v K) (by kernel_rfl) (by unfold g'bE; rw [impl_natAdd.eq])
theorem o'bE (N : Nat) : CalleeOK gd P 123 (mkCallee false p'bE (g'bE N)) :=
  callee_ok fun v K h => fn_snd hE hP (hct50 N) Tryz.func123 (by kernel_rfl) (body := b'bE) (by kernel_rfl) (by kernel_rfl) (AllOK.of (F := i'bE N) (l := [((.block 0 (.loop (codeAt b'bE [1, 1, 1, 0, 1, 0, 0]))), q'bC N), ((.block 2 (.loop (codeAt b'bE [1, 1, 1, 1, 0, 1, 0, 0]))), q'bD N)]) (by kernel_rfl) (.cons (oq'bC N) (.cons (oq'bD N) .nil))) (loans := BP.mkL p'bE.store v.2) rfl ((e'bE N v K).trans h)
noncomputable def ct51 (N : Nat) : CT := (123, (mkCallee false p'bE (g'bE N))) :: ct50 N
theorem hct51 (N : Nat) : CTOK gd P (ct51 N) := .cons (o'bE N) (hct50 N)

noncomputable def p'bF : Pt := ⟨[(.i .str), .u, .u, (.i (.sl (.int .i64))), .u, .u, (.i (.int .i64)), (.i (.int .i64)), .u, .u, .u, .u, .u, .u, .u, .u, .u, .u, .u, .u, .u, .u], []⟩
noncomputable def g'bF (n : Nat) (v : p'bF.V) (K : KO α) : Option α := impl_natRead_L0 N n v.1.1 v.1.2.2.2.1 v.1.2.2.2.2.2.2.1 v.1.2.2.2.2.2.2.2.1 (fun o0_0 => K (.normal ⟨[U, U, U, (.iv (.sl (.int .i64)) o0_0), U, U, U, U, U, U, U, U, U, U, U, U, U, U, U, U, U, U], []⟩))
noncomputable def q'bF (N : Nat) : Piece := (mkPiece 20673 p'bF (g'bF N N))
noncomputable def i'bG (N : Nat) : Fi := { loans := 0, owns := true, results := [.tmp 2], rtys := [23], blks := [(0, q'bF N)], regs := [], masks := [(0, 64)] }
noncomputable def b'bG : Code := match Tryz.f72.body with | some c => c | none => .skip
theorem e'bF (n : Nat) (v : p'bF.V) (K : KO α) : runRound env (ct51 N) (i'bG N) 20673 (mkPiece 20673 p'bF (g'bF N n)).run (.block 0 (.loop (codeAt b'bG [1, 1, 0, 1, 0, 0]))) (p'bF.mk' v) K = g'bF N (n + 1) v K := Eq.trans (b := impl_natRead_L0r N (fun y0 y1 y2 y3 => impl_natRead_L0 N n y0 y1 y2 y3 (fun o0_0 => K (.normal ⟨[U, U, U, (.iv (.sl (.int .i64)) o0_0), U, U, U, U, U, U, U, U, U, U, U, U, U, U, U, U, U, U], []⟩))) (fun o0_0 => K (.normal ⟨[U, U, U, (.iv (.sl (.int .i64)) o0_0), U, U, U, U, U, U, U, U, U, U, U, U, U, U, U, U, U, U], []⟩)) v.1.1 v.1.2.2.2.1 v.1.2.2.2.2.2.2.1 v.1.2.2.2.2.2.2.2.1) (by kernel_rfl) (by unfold g'bF; rw [impl_natRead_L0.succ])
theorem o'bF (N : Nat) : PieceOK gd P (i'bG N) (.block 0 (.loop (codeAt b'bG [1, 1, 0, 1, 0, 0]))) (mkPiece 20673 p'bF (g'bF N N)) :=
  piece_loop hE hP (hct51 N) (AllOK.of (F := i'bG N) (l := []) (by kernel_rfl) .nil) (fun n {_} => g'bF N n) (fun _ _ => by unfold g'bF; rw [impl_natRead_L0.zero]) (fun n {_} v K => e'bF N n v K) N
theorem oq'bF (N : Nat) : PieceOK gd P (i'bG N) (.block 0 (.loop (codeAt b'bG [1, 1, 0, 1, 0, 0]))) (q'bF N) := (o'bF N)
noncomputable def p'bG : Pt := ⟨[(.i .str)], []⟩
noncomputable def z'bG (F : type_of% @impl_natRead) (v : p'bG.V) (K : KF α) : Option α := F N v.1.1 (fun o0_0 => K (.iv (.sl (.int .i64)) o0_0) [])
noncomputable def g'bG (v : p'bG.V) (K : KF α) : Option α := z'bG N @impl_natRead v K
theorem e'bG (v : p'bG.V) (K : KF α) : runFn env (ct51 N) (i'bG N) Tryz.f72 (SP.mkL p'bG.slots v.1) (BP.mkL p'bG.store v.2) K = g'bG N v K := Eq.trans (b := z'bG N @impl_natRead.b v K) (by kernel_rfl) (by unfold g'bG; rw [impl_natRead.eq])
theorem o'bG (N : Nat) : CalleeOK gd P 72 (mkCallee false p'bG (g'bG N)) :=
  callee_ok fun v K h => fn_snd hE hP (hct51 N) Tryz.func72 (by kernel_rfl) (body := b'bG) (by kernel_rfl) (by kernel_rfl) (AllOK.of (F := i'bG N) (l := [((.block 0 (.loop (codeAt b'bG [1, 1, 0, 1, 0, 0]))), q'bF N)]) (by kernel_rfl) (.cons (oq'bF N) .nil)) (loans := BP.mkL p'bG.store v.2) rfl ((e'bG N v K).trans h)
noncomputable def ct52 (N : Nat) : CT := (72, (mkCallee false p'bG (g'bG N))) :: ct51 N
theorem hct52 (N : Nat) : CTOK gd P (ct52 N) := .cons (o'bG N) (hct51 N)

noncomputable def p'bH : Pt := ⟨[.u, .u, .u, (.i (.sl (.int .i64))), .u, (.i (.int .i64)), (.i (.int .i64)), .u, .u, .u, .u, .u, .u], []⟩
noncomputable def g'bH (n : Nat) (v : p'bH.V) (K : KO α) : Option α := impl_ten_L0 N n v.1.2.2.2.1 v.1.2.2.2.2.2.1 v.1.2.2.2.2.2.2.1 (fun o0_0 => K (.normal ⟨[U, U, U, (.iv (.sl (.int .i64)) o0_0), U, U, U, U, U, U, U, U, U], []⟩))
noncomputable def q'bH (N : Nat) : Piece := (mkPiece 5312 p'bH (g'bH N N))
noncomputable def i'bI (N : Nat) : Fi := { loans := 0, owns := true, results := [.tmp 2], rtys := [23], blks := [(0, q'bH N)], regs := [], masks := [(0, 64)] }
noncomputable def b'bI : Code := match Tryz.f83.body with | some c => c | none => .skip
theorem e'bH (n : Nat) (v : p'bH.V) (K : KO α) : runRound env (ct52 N) (i'bI N) 5312 (mkPiece 5312 p'bH (g'bH N n)).run (.block 0 (.loop (codeAt b'bI [1, 1, 0, 1, 0, 0]))) (p'bH.mk' v) K = g'bH N (n + 1) v K := Eq.trans (b := impl_ten_L0r N (fun y0 y1 y2 => impl_ten_L0 N n y0 y1 y2 (fun o0_0 => K (.normal ⟨[U, U, U, (.iv (.sl (.int .i64)) o0_0), U, U, U, U, U, U, U, U, U], []⟩))) (fun o0_0 => K (.normal ⟨[U, U, U, (.iv (.sl (.int .i64)) o0_0), U, U, U, U, U, U, U, U, U], []⟩)) v.1.2.2.2.1 v.1.2.2.2.2.2.1 v.1.2.2.2.2.2.2.1) (by kernel_rfl) (by unfold g'bH; rw [impl_ten_L0.succ])
theorem o'bH (N : Nat) : PieceOK gd P (i'bI N) (.block 0 (.loop (codeAt b'bI [1, 1, 0, 1, 0, 0]))) (mkPiece 5312 p'bH (g'bH N N)) :=
  piece_loop hE hP (hct52 N) (AllOK.of (F := i'bI N) (l := []) (by kernel_rfl) .nil) (fun n {_} => g'bH N n) (fun _ _ => by unfold g'bH; rw [impl_ten_L0.zero]) (fun n {_} v K => e'bH N n v K) N
theorem oq'bH (N : Nat) : PieceOK gd P (i'bI N) (.block 0 (.loop (codeAt b'bI [1, 1, 0, 1, 0, 0]))) (q'bH N) := (o'bH N)
noncomputable def p'bI : Pt := ⟨[(.i (.int .i64))], []⟩
noncomputable def z'bI (F : type_of% @impl_ten) (v : p'bI.V) (K : KF α) : Option α := F N v.1.1 (fun o0_0 => K (.iv (.sl (.int .i64)) o0_0) [])
noncomputable def g'bI (v : p'bI.V) (K : KF α) : Option α := z'bI N @impl_ten v K
theorem e'bI (v : p'bI.V) (K : KF α) : runFn env (ct52 N) (i'bI N) Tryz.f83 (SP.mkL p'bI.slots v.1) (BP.mkL p'bI.store v.2) K = g'bI N v K := Eq.trans (b := z'bI N @impl_ten.b v K) (by kernel_rfl) (by unfold g'bI; rw [impl_ten.eq])
theorem o'bI (N : Nat) : CalleeOK gd P 83 (mkCallee false p'bI (g'bI N)) :=
  callee_ok fun v K h => fn_snd hE hP (hct52 N) Tryz.func83 (by kernel_rfl) (body := b'bI) (by kernel_rfl) (by kernel_rfl) (AllOK.of (F := i'bI N) (l := [((.block 0 (.loop (codeAt b'bI [1, 1, 0, 1, 0, 0]))), q'bH N)]) (by kernel_rfl) (.cons (oq'bH N) .nil)) (loans := BP.mkL p'bI.store v.2) rfl ((e'bI N v K).trans h)
noncomputable def ct53 (N : Nat) : CT := (83, (mkCallee false p'bI (g'bI N))) :: ct52 N
theorem hct53 (N : Nat) : CTOK gd P (ct53 N) := .cons (o'bI N) (hct52 N)

noncomputable def i'bJ (N : Nat) : Fi := { loans := 0, owns := true, results := [.cell 4 25], rtys := [25], blks := [], regs := [], masks := [] }
noncomputable def b'bJ : Code := match Tryz.f81.body with | some c => c | none => .skip
noncomputable def p'bJ : Pt := ⟨[(.i .bool), (.i (.sl (.int .i64)))], []⟩
noncomputable def z'bJ (F : type_of% @impl_whole) (v : p'bJ.V) (K : KF α) : Option α := F N v.1.1 v.1.2.1 (fun o0_0 o0_1 o0_2 => K (.agg [(.iv .bool o0_0), (.iv (.sl (.int .i64)) o0_1), (.own 0)]) [(.arr 3 (.int .i64) o0_2 false)])
noncomputable def g'bJ (v : p'bJ.V) (K : KF α) : Option α := z'bJ N @impl_whole v K
theorem e'bJ (v : p'bJ.V) (K : KF α) : runFn env (ct53 N) (i'bJ N) Tryz.f81 (SP.mkL p'bJ.slots v.1) (BP.mkL p'bJ.store v.2) K = g'bJ N v K := Eq.trans (b := z'bJ N @impl_whole.b v K) (by kernel_rfl) (by unfold g'bJ; rw [impl_whole.eq])
theorem o'bJ (N : Nat) : CalleeOK gd P 81 (mkCallee false p'bJ (g'bJ N)) :=
  callee_ok fun v K h => fn_snd hE hP (hct53 N) Tryz.func81 (by kernel_rfl) (body := b'bJ) (by kernel_rfl) (by kernel_rfl) (AllOK.of (F := i'bJ N) (l := []) (by kernel_rfl) .nil) (loans := BP.mkL p'bJ.store v.2) rfl ((e'bJ N v K).trans h)
noncomputable def ct54 (N : Nat) : CT := (81, (mkCallee false p'bJ (g'bJ N))) :: ct53 N
theorem hct54 (N : Nat) : CTOK gd P (ct54 N) := .cons (o'bJ N) (hct53 N)

noncomputable def i'bK (N : Nat) : Fi := { loans := 0, owns := true, results := [.tmp 2], rtys := [23], blks := [], regs := [], masks := [] }
noncomputable def b'bK : Code := match Tryz.f107.body with | some c => c | none => .skip
noncomputable def p'bK : Pt := ⟨[(.i (.sl (.int .i64)))], []⟩
noncomputable def g'bK (N : Nat) {α : Type} (v : p'bK.V) (K : HV → List Blk → Option α) : Option α := slices_Clone_int_int N v.1.1 (fun x => K (.own 0) [.arr 3 (.int .i64) x false])
theorem o'bK (N : Nat) : CalleeOK gd P 107 (mkCallee false p'bK (g'bK N)) :=
  clone_ok hE hP (hct54 N) Tryz.func107 (by kernel_rfl) (body := b'bK) (by kernel_rfl) (F := i'bK N) (by kernel_rfl) (AllOK.of (F := i'bK N) (l := []) (by kernel_rfl) .nil) rfl (t := (.int .i64)) (e := 3) (l := 8796093022208) (fun _ => by kernel_rfl) (fun _ _ => by kernel_rfl)
noncomputable def ct55 (N : Nat) : CT := (107, (mkCallee false p'bK (g'bK N))) :: ct54 N
theorem hct55 (N : Nat) : CTOK gd P (ct55 N) := .cons (o'bK N) (hct54 N)

noncomputable def i'bL (N : Nat) : Fi := { loans := 1, owns := true, results := [.tmp 2], rtys := [23], blks := [], regs := [], masks := [] }
noncomputable def b'bL : Code := match Tryz.f150.body with | some c => c | none => .skip
noncomputable def p'bL : Pt := ⟨[(.o 0)], [(.arr 3 (.int .i64) false)]⟩
noncomputable def z'bL (F : type_of% @slices_Clip_int_int) (v : p'bL.V) (K : KF α) : Option α := F N v.2.1 (fun o0_0 => K (.own 1) [.gone, (.arr 3 (.int .i64) o0_0 false)])
noncomputable def g'bL (v : p'bL.V) (K : KF α) : Option α := z'bL N @slices_Clip_int_int v K
theorem e'bL (v : p'bL.V) (K : KF α) : runFn env (ct55 N) (i'bL N) Tryz.f150 (SP.mkL p'bL.slots v.1) (BP.mkL p'bL.store v.2) K = g'bL N v K := Eq.trans (b := z'bL N @slices_Clip_int_int.b v K) (by kernel_rfl) (by unfold g'bL; rw [slices_Clip_int_int.eq])
theorem o'bL (N : Nat) : CalleeOK gd P 150 (mkCallee true p'bL (g'bL N)) :=
  callee_ok fun v K h => fn_snd hE hP (hct55 N) Tryz.func150 (by kernel_rfl) (body := b'bL) (by kernel_rfl) (by kernel_rfl) (AllOK.of (F := i'bL N) (l := []) (by kernel_rfl) .nil) (loans := BP.mkL p'bL.store v.2) rfl ((e'bL N v K).trans h)
noncomputable def ct56 (N : Nat) : CT := (150, (mkCallee true p'bL (g'bL N))) :: ct55 N
theorem hct56 (N : Nat) : CTOK gd P (ct56 N) := .cons (o'bL N) (hct55 N)

noncomputable def i'bM (N : Nat) : Fi := { loans := 0, owns := true, results := [.tmp 2], rtys := [23], blks := [], regs := [], masks := [] }
noncomputable def b'bM : Code := match Tryz.f122.body with | some c => c | none => .skip
noncomputable def p'bM : Pt := ⟨[(.i (.sl (.int .i64)))], []⟩
noncomputable def z'bM (F : type_of% @impl_clone_int) (v : p'bM.V) (K : KF α) : Option α := F N v.1.1 (fun o0_0 => K (.own 0) [(.arr 3 (.int .i64) o0_0 false)])
noncomputable def g'bM (v : p'bM.V) (K : KF α) : Option α := z'bM N @impl_clone_int v K
theorem e'bM (v : p'bM.V) (K : KF α) : runFn env (ct56 N) (i'bM N) Tryz.f122 (SP.mkL p'bM.slots v.1) (BP.mkL p'bM.store v.2) K = g'bM N v K := Eq.trans (b := z'bM N @impl_clone_int.b v K) (by kernel_rfl) (by unfold g'bM; rw [impl_clone_int.eq])
theorem o'bM (N : Nat) : CalleeOK gd P 122 (mkCallee false p'bM (g'bM N)) :=
  callee_ok fun v K h => fn_snd hE hP (hct56 N) Tryz.func122 (by kernel_rfl) (body := b'bM) (by kernel_rfl) (by kernel_rfl) (AllOK.of (F := i'bM N) (l := []) (by kernel_rfl) .nil) (loans := BP.mkL p'bM.store v.2) rfl ((e'bM N v K).trans h)
noncomputable def ct57 (N : Nat) : CT := (122, (mkCallee false p'bM (g'bM N))) :: ct56 N
theorem hct57 (N : Nat) : CTOK gd P (ct57 N) := .cons (o'bM N) (hct56 N)

noncomputable def i'bN (N : Nat) : Fi := { loans := 0, owns := true, results := [.cell 2 25, .tmp 3], rtys := [25, 4], blks := [], regs := [], masks := [] }
noncomputable def b'bN : Code := match Tryz.f80.body with | some c => c | none => .skip
noncomputable def p'bN : Pt := ⟨[(.i (.pair .bool (.pair (.sl (.int .i64)) (.pair (.sl (.int .i64)) .unit))))], []⟩
noncomputable def z'bN (F : type_of% @impl_given) (v : p'bN.V) (K : KF α) : Option α := F N v.1.1 (fun o0_0 o0_1 o0_2 o0_3 => K (.tuple [(.agg [(.iv .bool o0_0), (.own 0), (.own 1)]), (.iv .bool o0_1)]) [(.arr 3 (.int .i64) o0_2 false), (.arr 3 (.int .i64) o0_3 false)])
noncomputable def g'bN (v : p'bN.V) (K : KF α) : Option α := z'bN N @impl_given v K
theorem e'bN (v : p'bN.V) (K : KF α) : runFn env (ct57 N) (i'bN N) Tryz.f80 (SP.mkL p'bN.slots v.1) (BP.mkL p'bN.store v.2) K = g'bN N v K := Eq.trans (b := z'bN N @impl_given.b v K) (by kernel_rfl) (by unfold g'bN; rw [impl_given.eq])
theorem o'bN (N : Nat) : CalleeOK gd P 80 (mkCallee false p'bN (g'bN N)) :=
  callee_ok fun v K h => fn_snd hE hP (hct57 N) Tryz.func80 (by kernel_rfl) (body := b'bN) (by kernel_rfl) (by kernel_rfl) (AllOK.of (F := i'bN N) (l := []) (by kernel_rfl) .nil) (loans := BP.mkL p'bN.store v.2) rfl ((e'bN N v K).trans h)
noncomputable def ct58 (N : Nat) : CT := (80, (mkCallee false p'bN (g'bN N))) :: ct57 N
theorem hct58 (N : Nat) : CTOK gd P (ct58 N) := .cons (o'bN N) (hct57 N)

noncomputable def p'bO : Pt := ⟨[(.i (.sl (.int .i64))), (.i (.sl (.int .i64))), .u, .u, .u, (.i (.int .i64)), .u, .u, .u, .u, .u, .u, .u, .u, .u, .u, .u, .u, .u, .u, .u, .u, .u, .u, .u, .u, .u, .u, .u, .u, .u, .u, .u, .u, .u, .u, .u, .u, .u, .u, .u, .u, .u, .u, .u], []⟩
noncomputable def g'bO (n : Nat) (v : p'bO.V) (K : KO α) : Option α := impl_natCmp_L0 N n v.1.1 v.1.2.1 v.1.2.2.2.2.2.1 (fun o0_0 => K (.ret (.iv (.int .i64) o0_0) [])) (K (.normal ⟨(us 45 []), []⟩))
noncomputable def q'bO (N : Nat) : Piece := (mkPiece 1029 p'bO (g'bO N N))
noncomputable def i'bP (N : Nat) : Fi := { loans := 0, owns := true, results := [.tmp 4], rtys := [3], blks := [(0, q'bO N)], regs := [], masks := [(0, 0)] }
noncomputable def b'bP : Code := match Tryz.f27.body with | some c => c | none => .skip
theorem e'bO (n : Nat) (v : p'bO.V) (K : KO α) : runRound env (ct58 N) (i'bP N) 1029 (mkPiece 1029 p'bO (g'bO N n)).run (.block 0 (.loop (codeAt b'bP [1, 1, 0, 1, 0, 0]))) (p'bO.mk' v) K = g'bO N (n + 1) v K := Eq.trans (b := impl_natCmp_L0r N (fun y0 y1 y2 => impl_natCmp_L0 N n y0 y1 y2 (fun o0_0 => K (.ret (.iv (.int .i64) o0_0) [])) (K (.normal ⟨(us 45 []), []⟩))) (fun o0_0 => K (.ret (.iv (.int .i64) o0_0) [])) (K (.normal ⟨(us 45 []), []⟩)) v.1.1 v.1.2.1 v.1.2.2.2.2.2.1) (by kernel_rfl) (by unfold g'bO; rw [impl_natCmp_L0.succ])
theorem o'bO (N : Nat) : PieceOK gd P (i'bP N) (.block 0 (.loop (codeAt b'bP [1, 1, 0, 1, 0, 0]))) (mkPiece 1029 p'bO (g'bO N N)) :=
  piece_loop hE hP (hct58 N) (AllOK.of (F := i'bP N) (l := []) (by kernel_rfl) .nil) (fun n {_} => g'bO N n) (fun _ _ => by unfold g'bO; rw [impl_natCmp_L0.zero]) (fun n {_} v K => e'bO N n v K) N
theorem oq'bO (N : Nat) : PieceOK gd P (i'bP N) (.block 0 (.loop (codeAt b'bP [1, 1, 0, 1, 0, 0]))) (q'bO N) := (o'bO N)
noncomputable def p'bP : Pt := ⟨[(.i (.sl (.int .i64))), (.i (.sl (.int .i64)))], []⟩
noncomputable def z'bP (F : type_of% @impl_natCmp) (v : p'bP.V) (K : KF α) : Option α := F N v.1.1 v.1.2.1 (fun o0_0 => K (.iv (.int .i64) o0_0) [])
noncomputable def g'bP (v : p'bP.V) (K : KF α) : Option α := z'bP N @impl_natCmp v K
theorem e'bP (v : p'bP.V) (K : KF α) : runFn env (ct58 N) (i'bP N) Tryz.f27 (SP.mkL p'bP.slots v.1) (BP.mkL p'bP.store v.2) K = g'bP N v K := Eq.trans (b := z'bP N @impl_natCmp.b v K) (by kernel_rfl) (by unfold g'bP; rw [impl_natCmp.eq])
theorem o'bP (N : Nat) : CalleeOK gd P 27 (mkCallee false p'bP (g'bP N)) :=
  callee_ok fun v K h => fn_snd hE hP (hct58 N) Tryz.func27 (by kernel_rfl) (body := b'bP) (by kernel_rfl) (by kernel_rfl) (AllOK.of (F := i'bP N) (l := [((.block 0 (.loop (codeAt b'bP [1, 1, 0, 1, 0, 0]))), q'bO N)]) (by kernel_rfl) (.cons (oq'bO N) .nil)) (loans := BP.mkL p'bP.store v.2) rfl ((e'bP N v K).trans h)
noncomputable def ct59 (N : Nat) : CT := (27, (mkCallee false p'bP (g'bP N))) :: ct58 N
theorem hct59 (N : Nat) : CTOK gd P (ct59 N) := .cons (o'bP N) (hct58 N)

noncomputable def p'bQ : Pt := ⟨[(.i (.int .u64)), .u, (.i (.int .i64)), .u, .u, .u, .u, .u, .u, .u, .u, .u, .u, .u, .u, .u, .u, .u, .u, .u, .u, .u, .u, .u, .u], []⟩
noncomputable def z'bQ (F : type_of% @math_bits_Len64_J1) (v : p'bQ.V) (K : KO α) : Option α := F N v.1.1 v.1.2.2.1 (fun o0_0 o0_1 => K (.normal ⟨[(.iv (.int .u64) o0_0), U, (.iv (.int .i64) o0_1), U, U, U, U, U, U, U, U, U, U, U, U, U, U, U, U, U, U, U, U, U, U], []⟩))
noncomputable def g'bQ (v : p'bQ.V) (K : KO α) : Option α := z'bQ N @math_bits_Len64_J1 v K
noncomputable def p'bR : Pt := ⟨[(.i (.int .u64)), .u, (.i (.int .i64)), .u, .u, .u, .u, .u, .u, .u, .u, .u, .u, .u, .u, .u, .u, .u, .u, .u, .u, .u, .u, .u, .u], []⟩
noncomputable def z'bR (F : type_of% @math_bits_Len64_J4) (v : p'bR.V) (K : KO α) : Option α := F N v.1.1 v.1.2.2.1 (fun o0_0 o0_1 => K (.normal ⟨[(.iv (.int .u64) o0_0), U, (.iv (.int .i64) o0_1), U, U, U, U, U, U, U, U, U, U, U, U, U, U, U, U, U, U, U, U, U, U], []⟩))
noncomputable def g'bR (v : p'bR.V) (K : KO α) : Option α := z'bR N @math_bits_Len64_J4 v K
noncomputable def p'bS : Pt := ⟨[(.i (.int .u64)), .u, (.i (.int .i64)), .u, .u, .u, .u, .u, .u, .u, .u, .u, .u, .u, .u, .u, .u, .u, .u, .u, .u, .u, .u, .u, .u], []⟩
noncomputable def z'bS (F : type_of% @math_bits_Len64_J7) (v : p'bS.V) (K : KO α) : Option α := F N v.1.1 v.1.2.2.1 (fun o0_0 o0_1 => K (.normal ⟨[(.iv (.int .u64) o0_0), U, (.iv (.int .i64) o0_1), U, U, U, U, U, U, U, U, U, U, U, U, U, U, U, U, U, U, U, U, U, U], []⟩))
noncomputable def g'bS (v : p'bS.V) (K : KO α) : Option α := z'bS N @math_bits_Len64_J7 v K
noncomputable def q'bQ (N : Nat) : Piece := (mkPiece 17 p'bQ (g'bQ N))
noncomputable def q'bR (N : Nat) : Piece := (mkPiece 17 p'bR (g'bR N))
noncomputable def q'bS (N : Nat) : Piece := (mkPiece 17 p'bS (g'bS N))
noncomputable def i'bT (N : Nat) : Fi := { loans := 0, owns := true, results := [.tmp 2], rtys := [3], blks := [], regs := [(1, q'bQ N), (4, q'bR N), (7, q'bS N)], masks := [] }
noncomputable def b'bT : Code := match Tryz.f140.body with | some c => c | none => .skip
theorem e'bQ (v : p'bQ.V) (K : KO α) : runSeq env (ct59 N) (i'bT N) 17 (.seq (codeAt b'bT [1, 0, 0]) (codeAt b'bT [1, 0, 1])) (p'bQ.mk' v) K = g'bQ N v K := Eq.trans (b := z'bQ N @math_bits_Len64_J1.b v K) (by kernel_rfl) (by unfold g'bQ; rw [math_bits_Len64_J1.eq])
theorem o'bQ (N : Nat) : PieceOK gd P (i'bT N) (.seq (codeAt b'bT [1, 0, 0]) (codeAt b'bT [1, 0, 1])) (mkPiece 17 p'bQ (g'bQ N)) :=
  piece_seq hE hP (hct59 N) (AllOK.of (F := i'bT N) (l := []) (by kernel_rfl) .nil) (AllOK.of (F := i'bT N) (l := []) (by kernel_rfl) .nil) (e'bQ N)
theorem oq'bQ (N : Nat) : PieceOK gd P (i'bT N) (.seq (codeAt b'bT [1, 0, 0]) (codeAt b'bT [1, 0, 1])) (q'bQ N) := (o'bQ N)
theorem e'bR (v : p'bR.V) (K : KO α) : runSeq env (ct59 N) (i'bT N) 17 (.seq (codeAt b'bT [1, 1, 0, 0]) (codeAt b'bT [1, 1, 0, 1])) (p'bR.mk' v) K = g'bR N v K := Eq.trans (b := z'bR N @math_bits_Len64_J4.b v K) (by kernel_rfl) (by unfold g'bR; rw [math_bits_Len64_J4.eq])
theorem o'bR (N : Nat) : PieceOK gd P (i'bT N) (.seq (codeAt b'bT [1, 1, 0, 0]) (codeAt b'bT [1, 1, 0, 1])) (mkPiece 17 p'bR (g'bR N)) :=
  piece_seq hE hP (hct59 N) (AllOK.of (F := i'bT N) (l := []) (by kernel_rfl) .nil) (AllOK.of (F := i'bT N) (l := []) (by kernel_rfl) .nil) (e'bR N)
theorem oq'bR (N : Nat) : PieceOK gd P (i'bT N) (.seq (codeAt b'bT [1, 1, 0, 0]) (codeAt b'bT [1, 1, 0, 1])) (q'bR N) := (o'bR N)
theorem e'bS (v : p'bS.V) (K : KO α) : runSeq env (ct59 N) (i'bT N) 17 (.seq (codeAt b'bT [1, 1, 1, 0, 0]) (codeAt b'bT [1, 1, 1, 0, 1])) (p'bS.mk' v) K = g'bS N v K := Eq.trans (b := z'bS N @math_bits_Len64_J7.b v K) (by kernel_rfl) (by unfold g'bS; rw [math_bits_Len64_J7.eq])
theorem o'bS (N : Nat) : PieceOK gd P (i'bT N) (.seq (codeAt b'bT [1, 1, 1, 0, 0]) (codeAt b'bT [1, 1, 1, 0, 1])) (mkPiece 17 p'bS (g'bS N)) :=
  piece_seq hE hP (hct59 N) (AllOK.of (F := i'bT N) (l := []) (by kernel_rfl) .nil) (AllOK.of (F := i'bT N) (l := []) (by kernel_rfl) .nil) (e'bS N)
theorem oq'bS (N : Nat) : PieceOK gd P (i'bT N) (.seq (codeAt b'bT [1, 1, 1, 0, 0]) (codeAt b'bT [1, 1, 1, 0, 1])) (q'bS N) := (o'bS N)
noncomputable def p'bT : Pt := ⟨[(.i (.int .u64))], []⟩
noncomputable def z'bT (F : type_of% @math_bits_Len64) (v : p'bT.V) (K : KF α) : Option α := F N v.1.1 (fun o0_0 => K (.iv (.int .i64) o0_0) [])
noncomputable def g'bT (v : p'bT.V) (K : KF α) : Option α := z'bT N @math_bits_Len64 v K
theorem e'bT (v : p'bT.V) (K : KF α) : runFn env (ct59 N) (i'bT N) Tryz.f140 (SP.mkL p'bT.slots v.1) (BP.mkL p'bT.store v.2) K = g'bT N v K := Eq.trans (b := z'bT N @math_bits_Len64.b v K) (by kernel_rfl) (by unfold g'bT; rw [math_bits_Len64.eq])
theorem o'bT (N : Nat) : CalleeOK gd P 140 (mkCallee false p'bT (g'bT N)) :=
  callee_ok fun v K h => fn_snd hE hP (hct59 N) Tryz.func140 (by kernel_rfl) (body := b'bT) (by kernel_rfl) (by kernel_rfl) (AllOK.of (F := i'bT N) (l := [((.seq (codeAt b'bT [1, 0, 0]) (codeAt b'bT [1, 0, 1])), q'bQ N), ((.seq (codeAt b'bT [1, 1, 0, 0]) (codeAt b'bT [1, 1, 0, 1])), q'bR N), ((.seq (codeAt b'bT [1, 1, 1, 0, 0]) (codeAt b'bT [1, 1, 1, 0, 1])), q'bS N)]) (by kernel_rfl) (.cons (oq'bQ N) (.cons (oq'bR N) (.cons (oq'bS N) .nil)))) (loans := BP.mkL p'bT.store v.2) rfl ((e'bT N v K).trans h)
noncomputable def ct60 (N : Nat) : CT := (140, (mkCallee false p'bT (g'bT N))) :: ct59 N
theorem hct60 (N : Nat) : CTOK gd P (ct60 N) := .cons (o'bT N) (hct59 N)

noncomputable def i'bU (N : Nat) : Fi := { loans := 0, owns := true, results := [.tmp 2], rtys := [3], blks := [], regs := [], masks := [] }
noncomputable def b'bU : Code := match Tryz.f106.body with | some c => c | none => .skip
noncomputable def p'bU : Pt := ⟨[(.i (.int .u64))], []⟩
noncomputable def z'bU (F : type_of% @math_bits_Len) (v : p'bU.V) (K : KF α) : Option α := F N v.1.1 (fun o0_0 => K (.iv (.int .i64) o0_0) [])
noncomputable def g'bU (v : p'bU.V) (K : KF α) : Option α := z'bU N @math_bits_Len v K
theorem e'bU (v : p'bU.V) (K : KF α) : runFn env (ct60 N) (i'bU N) Tryz.f106 (SP.mkL p'bU.slots v.1) (BP.mkL p'bU.store v.2) K = g'bU N v K := Eq.trans (b := z'bU N @math_bits_Len.b v K) (by kernel_rfl) (by unfold g'bU; rw [math_bits_Len.eq])
theorem o'bU (N : Nat) : CalleeOK gd P 106 (mkCallee false p'bU (g'bU N)) :=
  callee_ok fun v K h => fn_snd hE hP (hct60 N) Tryz.func106 (by kernel_rfl) (body := b'bU) (by kernel_rfl) (by kernel_rfl) (AllOK.of (F := i'bU N) (l := []) (by kernel_rfl) .nil) (loans := BP.mkL p'bU.store v.2) rfl ((e'bU N v K).trans h)
noncomputable def ct61 (N : Nat) : CT := (106, (mkCallee false p'bU (g'bU N))) :: ct60 N
theorem hct61 (N : Nat) : CTOK gd P (ct61 N) := .cons (o'bU N) (hct60 N)

noncomputable def p'bV : Pt := ⟨[(.i (.sl (.int .i64))), .u, .u, .u, .u, (.i (.int .i64)), (.i (.int .i64)), (.o 0), (.i (.int .i64)), .u, .u, .u, .u, .u, .u, .u, .u, .u, .u, .u, .u, .u, .u, .u, .u, .u, .u, .u, .u, .u, (.i (.int .i64)), (.i (.int .i64)), .u, .u, .u, .u, .u, .u, .u, .u, .u, .u, .u, .u, .u, .u, .u, .u, .u, .u, .u, .u, .u, .u, .u, .u, .u, .u, .u, .u, .u, .u, .u, .u, .u, .u, .u, .u, .u, .u, .u, .u, .u, .u, .u, .u, .u, .u, .u, .u, .u, .u, .u, .u, .u, .u, .u, .u, .u, .u, .u, .u, .u, .u, .u, .u, .u, .u, .u, .u, .u, .u, .u, .u, .u, .u, .u, .u, .u], [(.arr 3 (.int .i64) false)]⟩
noncomputable def z'bV (F : type_of% @impl_natShift_J10) (v : p'bV.V) (K : KO α) : Option α := F N v.1.1 v.1.2.2.2.2.2.1 v.1.2.2.2.2.2.2.1 v.1.2.2.2.2.2.2.2.2.1 v.1.2.2.2.2.2.2.2.2.2.2.2.2.2.2.2.2.2.2.2.2.2.2.2.2.2.2.2.2.2.2.1 v.1.2.2.2.2.2.2.2.2.2.2.2.2.2.2.2.2.2.2.2.2.2.2.2.2.2.2.2.2.2.2.2.1 v.2.1 (fun o0_0 o0_1 o0_2 o0_3 o0_4 o0_5 => K (.normal ⟨[(.iv (.sl (.int .i64)) o0_0), U, U, U, U, (.iv (.int .i64) o0_1), (.iv (.int .i64) o0_2), (.own 0), U, U, U, U, U, U, U, U, U, U, U, U, U, U, U, U, U, U, U, U, U, U, (.iv (.int .i64) o0_3), (.iv (.int .i64) o0_4), U, U, U, U, U, U, U, U, U, U, U, U, U, U, U, U, U, U, U, U, U, U, U, U, U, U, U, U, U, U, U, U, U, U, U, U, U, U, U, U, U, U, U, U, U, U, U, U, U, U, U, U, U, U, U, U, U, U, U, U, U, U, U, U, U, U, U, U, U, U, U, U, U, U, U, U, U], [(.arr 3 (.int .i64) o0_5 false)]⟩))
noncomputable def g'bV (v : p'bV.V) (K : KO α) : Option α := z'bV N @impl_natShift_J10 v K
noncomputable def p'bW : Pt := ⟨[(.i (.sl (.int .i64))), .u, .u, .u, .u, (.i (.int .i64)), (.i (.int .i64)), (.o 0), .u, .u, .u, .u, .u, .u, .u, .u, .u, .u, .u, .u, .u, .u, .u, .u, .u, .u, .u, .u, .u, .u, (.i (.int .i64)), (.i (.int .i64)), .u, .u, .u, .u, .u, .u, .u, .u, .u, .u, .u, .u, .u, .u, .u, .u, .u, .u, .u, .u, .u, .u, .u, .u, .u, .u, .u, .u, .u, .u, .u, .u, .u, .u, .u, .u, .u, .u, .u, .u, .u, .u, .u, .u, .u, .u, .u, .u, .u, .u, .u, .u, .u, .u, .u, .u, .u, .u, .u, .u, .u, .u, .u, .u, .u, .u, .u, .u, .u, .u, .u, .u, .u, .u, .u, .u, .u], [(.arr 3 (.int .i64) false)]⟩
noncomputable def g'bW (n : Nat) (v : p'bW.V) (K : KO α) : Option α := impl_natShift_L0 N n v.1.1 v.1.2.2.2.2.2.1 v.1.2.2.2.2.2.2.1 v.1.2.2.2.2.2.2.2.2.2.2.2.2.2.2.2.2.2.2.2.2.2.2.2.2.2.2.2.2.2.2.1 v.1.2.2.2.2.2.2.2.2.2.2.2.2.2.2.2.2.2.2.2.2.2.2.2.2.2.2.2.2.2.2.2.1 v.2.1 (fun o0_0 => K (.normal ⟨(us 7 [(.own 0), U, U, U, U, U, U, U, U, U, U, U, U, U, U, U, U, U, U, U, U, U, U, U, U, U, U, U, U, U, U, U, U, U, U, U, U, U, U, U, U, U, U, U, U, U, U, U, U, U, U, U, U, U, U, U, U, U, U, U, U, U, U, U, U, U, U, U, U, U, U, U, U, U, U, U, U, U, U, U, U, U, U, U, U, U, U, U, U, U, U, U, U, U, U, U, U, U, U, U, U, U]), [(.arr 3 (.int .i64) o0_0 false)]⟩))
noncomputable def p'bX : Pt := ⟨[.u, (.i (.int .i64)), .u, .u, .u, .u, .u, .u, .u, (.o 0), .u, .u, .u, .u, .u, .u, .u, .u, .u, .u, .u, .u, .u, .u, .u, .u, .u, .u, .u, .u, .u, .u, .u, .u, .u, .u, .u, .u, .u, .u, .u, .u, .u, .u, .u, .u, .u, .u, .u, .u, .u, .u, .u, .u, .u, .u, .u, .u, .u, .u, .u, .u, .u, .u, .u, .u, .u, .u, .u, .u, .u, .u, .u, .u, .u, (.i (.sl (.int .i64))), (.i (.int .i64)), (.i (.int .i64)), .u, .u, .u, .u, .u, .u, .u, .u, .u, .u, .u, .u, .u, .u, .u, .u, .u, .u, .u, .u, .u, .u, .u, .u, .u, .u, .u, .u, .u, .u, .u], [(.arr 3 (.int .i64) false)]⟩
noncomputable def g'bX (n : Nat) (v : p'bX.V) (K : KO α) : Option α := impl_natShift_L2 N n v.1.2.1 v.1.2.2.2.2.2.2.2.2.2.2.2.2.2.2.2.2.2.2.2.2.2.2.2.2.2.2.2.2.2.2.2.2.2.2.2.2.2.2.2.2.2.2.2.2.2.2.2.2.2.2.2.2.2.2.2.2.2.2.2.2.2.2.2.2.2.2.2.2.2.2.2.2.2.2.2.1 v.1.2.2.2.2.2.2.2.2.2.2.2.2.2.2.2.2.2.2.2.2.2.2.2.2.2.2.2.2.2.2.2.2.2.2.2.2.2.2.2.2.2.2.2.2.2.2.2.2.2.2.2.2.2.2.2.2.2.2.2.2.2.2.2.2.2.2.2.2.2.2.2.2.2.2.2.2.1 v.1.2.2.2.2.2.2.2.2.2.2.2.2.2.2.2.2.2.2.2.2.2.2.2.2.2.2.2.2.2.2.2.2.2.2.2.2.2.2.2.2.2.2.2.2.2.2.2.2.2.2.2.2.2.2.2.2.2.2.2.2.2.2.2.2.2.2.2.2.2.2.2.2.2.2.2.2.2.1 v.2.1 (fun o0_0 => K (.normal ⟨(us 9 [(.own 0), U, U, U, U, U, U, U, U, U, U, U, U, U, U, U, U, U, U, U, U, U, U, U, U, U, U, U, U, U, U, U, U, U, U, U, U, U, U, U, U, U, U, U, U, U, U, U, U, U, U, U, U, U, U, U, U, U, U, U, U, U, U, U, U, U, U, U, U, U, U, U, U, U, U, U, U, U, U, U, U, U, U, U, U, U, U, U, U, U, U, U, U, U, U, U, U, U, U, U]), [(.arr 3 (.int .i64) o0_0 false)]⟩))
noncomputable def q'bV (N : Nat) : Piece := (mkPiece 5764607523034321921 p'bV (g'bV N))
noncomputable def q'bW (N : Nat) : Piece := (mkPiece 5764607523034256385 p'bW (g'bW N N))
noncomputable def q'bX (N : Nat) : Piece := (mkPiece 29972201546825157502224005358439397864037941252 p'bX (g'bX N N))
noncomputable def i'bY (N : Nat) : Fi := { loans := 0, owns := false, results := [.tmp 4], rtys := [23], blks := [(0, q'bW N), (2, q'bX N)], regs := [(10, q'bV N)], masks := [(0, 16384), (2, 262144)] }
noncomputable def b'bY : Code := match Tryz.f92.body with | some c => c | none => .skip
theorem e'bV (v : p'bV.V) (K : KO α) : runSeq env (ct61 N) (i'bY N) 5764607523034256385 (.seq (codeAt b'bY [1, 0, 1, 0, 1, 1, 1, 0, 1, 0, 0, 1, 1, 0, 0, 1, 1, 0]) (codeAt b'bY [1, 0, 1, 0, 1, 1, 1, 0, 1, 0, 0, 1, 1, 0, 0, 1, 1, 1])) (p'bV.mk' v) K = g'bV N v K := Eq.trans (b := z'bV N @impl_natShift_J10.b v K) (by kernel_rfl) (by unfold g'bV; rw [impl_natShift_J10.eq])
theorem o'bV (N : Nat) : PieceOK gd P (i'bY N) (.seq (codeAt b'bY [1, 0, 1, 0, 1, 1, 1, 0, 1, 0, 0, 1, 1, 0, 0, 1, 1, 0]) (codeAt b'bY [1, 0, 1, 0, 1, 1, 1, 0, 1, 0, 0, 1, 1, 0, 0, 1, 1, 1])) (mkPiece 5764607523034321921 p'bV (g'bV N)) :=
  piece_seq hE hP (hct61 N) (AllOK.of (F := i'bY N) (l := []) (by kernel_rfl) .nil) (AllOK.of (F := i'bY N) (l := []) (by kernel_rfl) .nil) (e'bV N)
theorem oq'bV (N : Nat) : PieceOK gd P (i'bY N) (.seq (codeAt b'bY [1, 0, 1, 0, 1, 1, 1, 0, 1, 0, 0, 1, 1, 0, 0, 1, 1, 0]) (codeAt b'bY [1, 0, 1, 0, 1, 1, 1, 0, 1, 0, 0, 1, 1, 0, 0, 1, 1, 1])) (q'bV N) := (o'bV N)
theorem e'bW (n : Nat) (v : p'bW.V) (K : KO α) : runRound env (ct61 N) (i'bY N) 5764607523034256385 (mkPiece 5764607523034256385 p'bW (g'bW N n)).run (.block 0 (.loop (codeAt b'bY [1, 0, 1, 0, 1, 1, 1, 0, 1, 0, 0]))) (p'bW.mk' v) K = g'bW N (n + 1) v K := Eq.trans (b := impl_natShift_L0r N (fun y0 y1 y2 y3 y4 y5 => impl_natShift_L0 N n y0 y1 y2 y3 y4 y5 (fun o0_0 => K (.normal ⟨(us 7 [(.own 0), U, U, U, U, U, U, U, U, U, U, U, U, U, U, U, U, U, U, U, U, U, U, U, U, U, U, U, U, U, U, U, U, U, U, U, U, U, U, U, U, U, U, U, U, U, U, U, U, U, U, U, U, U, U, U, U, U, U, U, U, U, U, U, U, U, U, U, U, U, U, U, U, U, U, U, U, U, U, U, U, U, U, U, U, U, U, U, U, U, U, U, U, U, U, U, U, U, U, U, U, U]), [(.arr 3 (.int .i64) o0_0 false)]⟩))) (fun o0_0 => K (.normal ⟨(us 7 [(.own 0), U, U, U, U, U, U, U, U, U, U, U, U, U, U, U, U, U, U, U, U, U, U, U, U, U, U, U, U, U, U, U, U, U, U, U, U, U, U, U, U, U, U, U, U, U, U, U, U, U, U, U, U, U, U, U, U, U, U, U, U, U, U, U, U, U, U, U, U, U, U, U, U, U, U, U, U, U, U, U, U, U, U, U, U, U, U, U, U, U, U, U, U, U, U, U, U, U, U, U, U, U]), [(.arr 3 (.int .i64) o0_0 false)]⟩)) v.1.1 v.1.2.2.2.2.2.1 v.1.2.2.2.2.2.2.1 v.1.2.2.2.2.2.2.2.2.2.2.2.2.2.2.2.2.2.2.2.2.2.2.2.2.2.2.2.2.2.2.1 v.1.2.2.2.2.2.2.2.2.2.2.2.2.2.2.2.2.2.2.2.2.2.2.2.2.2.2.2.2.2.2.2.1 v.2.1) (by kernel_rfl) (by unfold g'bW; rw [impl_natShift_L0.succ])
theorem o'bW (N : Nat) : PieceOK gd P (i'bY N) (.block 0 (.loop (codeAt b'bY [1, 0, 1, 0, 1, 1, 1, 0, 1, 0, 0]))) (mkPiece 5764607523034256385 p'bW (g'bW N N)) :=
  piece_loop hE hP (hct61 N) (AllOK.of (F := i'bY N) (l := [((.seq (codeAt b'bY [1, 0, 1, 0, 1, 1, 1, 0, 1, 0, 0, 1, 1, 0, 0, 1, 1, 0]) (codeAt b'bY [1, 0, 1, 0, 1, 1, 1, 0, 1, 0, 0, 1, 1, 0, 0, 1, 1, 1])), q'bV N)]) (by kernel_rfl) (.cons (oq'bV N) .nil)) (fun n {_} => g'bW N n) (fun _ _ => by unfold g'bW; rw [impl_natShift_L0.zero]) (fun n {_} v K => e'bW N n v K) N
theorem oq'bW (N : Nat) : PieceOK gd P (i'bY N) (.block 0 (.loop (codeAt b'bY [1, 0, 1, 0, 1, 1, 1, 0, 1, 0, 0]))) (q'bW N) := (o'bW N)
theorem e'bX (n : Nat) (v : p'bX.V) (K : KO α) : runRound env (ct61 N) (i'bY N) 29972201546825157502224005358439397864037941252 (mkPiece 29972201546825157502224005358439397864037941252 p'bX (g'bX N n)).run (.block 2 (.loop (codeAt b'bY [1, 1, 1, 0, 1, 0, 0]))) (p'bX.mk' v) K = g'bX N (n + 1) v K := Eq.trans (b := impl_natShift_L2r N (fun y0 y1 y2 y3 y4 => impl_natShift_L2 N n y0 y1 y2 y3 y4 (fun o0_0 => K (.normal ⟨(us 9 [(.own 0), U, U, U, U, U, U, U, U, U, U, U, U, U, U, U, U, U, U, U, U, U, U, U, U, U, U, U, U, U, U, U, U, U, U, U, U, U, U, U, U, U, U, U, U, U, U, U, U, U, U, U, U, U, U, U, U, U, U, U, U, U, U, U, U, U, U, U, U, U, U, U, U, U, U, U, U, U, U, U, U, U, U, U, U, U, U, U, U, U, U, U, U, U, U, U, U, U, U, U]), [(.arr 3 (.int .i64) o0_0 false)]⟩))) (fun o0_0 => K (.normal ⟨(us 9 [(.own 0), U, U, U, U, U, U, U, U, U, U, U, U, U, U, U, U, U, U, U, U, U, U, U, U, U, U, U, U, U, U, U, U, U, U, U, U, U, U, U, U, U, U, U, U, U, U, U, U, U, U, U, U, U, U, U, U, U, U, U, U, U, U, U, U, U, U, U, U, U, U, U, U, U, U, U, U, U, U, U, U, U, U, U, U, U, U, U, U, U, U, U, U, U, U, U, U, U, U, U]), [(.arr 3 (.int .i64) o0_0 false)]⟩)) v.1.2.1 v.1.2.2.2.2.2.2.2.2.2.2.2.2.2.2.2.2.2.2.2.2.2.2.2.2.2.2.2.2.2.2.2.2.2.2.2.2.2.2.2.2.2.2.2.2.2.2.2.2.2.2.2.2.2.2.2.2.2.2.2.2.2.2.2.2.2.2.2.2.2.2.2.2.2.2.2.1 v.1.2.2.2.2.2.2.2.2.2.2.2.2.2.2.2.2.2.2.2.2.2.2.2.2.2.2.2.2.2.2.2.2.2.2.2.2.2.2.2.2.2.2.2.2.2.2.2.2.2.2.2.2.2.2.2.2.2.2.2.2.2.2.2.2.2.2.2.2.2.2.2.2.2.2.2.2.1 v.1.2.2.2.2.2.2.2.2.2.2.2.2.2.2.2.2.2.2.2.2.2.2.2.2.2.2.2.2.2.2.2.2.2.2.2.2.2.2.2.2.2.2.2.2.2.2.2.2.2.2.2.2.2.2.2.2.2.2.2.2.2.2.2.2.2.2.2.2.2.2.2.2.2.2.2.2.2.1 v.2.1) (by kernel_rfl) (by unfold g'bX; rw [impl_natShift_L2.succ])
theorem o'bX (N : Nat) : PieceOK gd P (i'bY N) (.block 2 (.loop (codeAt b'bY [1, 1, 1, 0, 1, 0, 0]))) (mkPiece 29972201546825157502224005358439397864037941252 p'bX (g'bX N N)) :=
  piece_loop hE hP (hct61 N) (AllOK.of (F := i'bY N) (l := []) (by kernel_rfl) .nil) (fun n {_} => g'bX N n) (fun _ _ => by unfold g'bX; rw [impl_natShift_L2.zero]) (fun n {_} v K => e'bX N n v K) N
theorem oq'bX (N : Nat) : PieceOK gd P (i'bY N) (.block 2 (.loop (codeAt b'bY [1, 1, 1, 0, 1, 0, 0]))) (q'bX N) := (o'bX N)
noncomputable def p'bY : Pt := ⟨[(.i (.sl (.int .i64))), (.i (.int .i64))], []⟩
noncomputable def z'bY (F : type_of% @impl_natShift) (v : p'bY.V) (K : KF α) : Option α := F N v.1.1 v.1.2.1 (fun o0_0 => K (.iv (.sl (.int .i64)) o0_0) [])
noncomputable def g'bY (v : p'bY.V) (K : KF α) : Option α := z'bY N @impl_natShift v K
theorem e'bY (v : p'bY.V) (K : KF α) : runFn env (ct61 N) (i'bY N) Tryz.f92 (SP.mkL p'bY.slots v.1) (BP.mkL p'bY.store v.2) K = g'bY N v K := Eq.trans (b := z'bY N @impl_natShift.b v K) (by kernel_rfl) (by unfold g'bY; rw [impl_natShift.eq])
theorem o'bY (N : Nat) : CalleeOK gd P 92 (mkCallee false p'bY (g'bY N)) :=
  callee_ok fun v K h => fn_snd hE hP (hct61 N) Tryz.func92 (by kernel_rfl) (body := b'bY) (by kernel_rfl) (by kernel_rfl) (AllOK.of (F := i'bY N) (l := [((.block 0 (.loop (codeAt b'bY [1, 0, 1, 0, 1, 1, 1, 0, 1, 0, 0]))), q'bW N), ((.block 2 (.loop (codeAt b'bY [1, 1, 1, 0, 1, 0, 0]))), q'bX N)]) (by kernel_rfl) (.cons (oq'bW N) (.cons (oq'bX N) .nil))) (loans := BP.mkL p'bY.store v.2) rfl ((e'bY N v K).trans h)
noncomputable def ct62 (N : Nat) : CT := (92, (mkCallee false p'bY (g'bY N))) :: ct61 N
theorem hct62 (N : Nat) : CTOK gd P (ct62 N) := .cons (o'bY N) (hct61 N)

noncomputable def p'bZ : Pt := ⟨[(.i (.sl (.int .i64))), (.i (.sl (.int .i64))), .u, .u, .u, .u, (.o 0), (.i (.int .i64)), (.i (.int .i64)), .u, .u, .u, .u, .u, .u, .u, .u, .u, .u, .u, .u, .u, .u, .u, .u, .u, .u, .u, .u, .u, .u, .u, .u, .u, .u, .u, .u, .u, .u, .u, .u, .u, .u, .u, .u, .u, .u, .u, .u, .u, .u, .u, .u, .u, .u, .u, .u, .u, .u, .u, .u, .u, .u, .u, .u, .u, .u, .u, .u, .u, .u, .u, .u, .u, .u, .u, .u, .u, .u, .u, .u, .u, .u, .u, .u, .u, .u, .u, .u, .u, .u, .u, .u, .u, .u, .u, .u, .u, .u, .u, .u, .u, .u, .u, .u, .u, .u, .u, .u, .u, .u, .u, .u, .u, .u, .u, .u, .u, .u, .u, .u, .u, .u, .u, .u, .u, .u, .u, .u, .u, .u, .u, .u, .u, .u, .u, .u, .u, .u, .u, .u, .u, .u, .u, .u, .u, .u, .u, .u, .u, .u, .u, .u, .u, .u, .u, .u, .u, .u, .u, .u, .u, .u, .u, .u, .u, .u, .u, .u, .u, .u, .u, .u, .u, .u, .u, .u, .u, .u, .u, .u, .u, .u, .u, .u, .u, .u, .u, .u, .u, .u, .u, .u, .u, .u, .u, .u, .u, .u, .u, .u, .u, .u, .u, .u, .u, .u, .u, .u, .u, .u, .u, .u, .u, .u, .u, .u, .u, .u, .u, .u, .u, .u, .u, .u, .u, .u, .u, .u, .u, .u, .u, .u, .u, .u, .u, .u, .u, .u, .u, .u, .u, .u, .u, .u, .u, .u, .u, .u, .u, .u, .u, .u, .u, .u, .u, .u, .u, .u, .u, .u, .u, .u, .u, .u, .u, .u, .u, .u, .u, .u, .u, .u, .u, .u, .u, .u], [(.arr 3 (.int .i64) false)]⟩
noncomputable def g'bZ (n : Nat) (v : p'bZ.V) (K : KO α) : Option α := impl_natDiv_L0 N n v.1.1 v.1.2.1 v.1.2.2.2.2.2.2.2.1 v.1.2.2.2.2.2.2.2.2.1 v.2.1 (fun o0_0 o0_1 => K (.normal ⟨(us 6 [(.own 0), (.iv (.int .i64) o0_0), U, U, U, U, U, U, U, U, U, U, U, U, U, U, U, U, U, U, U, U, U, U, U, U, U, U, U, U, U, U, U, U, U, U, U, U, U, U, U, U, U, U, U, U, U, U, U, U, U, U, U, U, U, U, U, U, U, U, U, U, U, U, U, U, U, U, U, U, U, U, U, U, U, U, U, U, U, U, U, U, U, U, U, U, U, U, U, U, U, U, U, U, U, U, U, U, U, U, U, U, U, U, U, U, U, U, U, U, U, U, U, U, U, U, U, U, U, U, U, U, U, U, U, U, U, U, U, U, U, U, U, U, U, U, U, U, U, U, U, U, U, U, U, U, U, U, U, U, U, U, U, U, U, U, U, U, U, U, U, U, U, U, U, U, U, U, U, U, U, U, U, U, U, U, U, U, U, U, U, U, U, U, U, U, U, U, U, U, U, U, U, U, U, U, U, U, U, U, U, U, U, U, U, U, U, U, U, U, U, U, U, U, U, U, U, U, U, U, U, U, U, U, U, U, U, U, U, U, U, U, U, U, U, U, U, U, U, U, U, U, U, U, U, U, U, U, U, U, U, U, U, U, U, U, U, U, U, U, U, U, U, U, U, U, U, U, U, U, U]), [(.arr 3 (.int .i64) o0_1 false)]⟩))
noncomputable def p'b0 : Pt := ⟨[(.i (.sl (.int .i64))), .u, .u, .u, .u, .u, .u, .u, .u, .u, (.i (.int .i64)), (.i (.sl (.int .i64))), (.o 0), (.i (.int .i64)), .u, .u, .u, .u, .u, .u, .u, .u, .u, .u, .u, .u, .u, .u, .u, .u, .u, .u, .u, .u, .u, .u, .u, .u, .u, .u, .u, .u, .u, .u, .u, .u, .u, .u, .u, .u, .u, .u, .u, .u, .u, .u, .u, .u, .u, .u, .u, .u, .u, .u, .u, .u, .u, .u, .u, .u, .u, .u, .u, .u, .u, .u, .u, .u, .u, .u, .u, .u, .u, .u, .u, .u, .u, .u, .u, .u, .u, .u, .u, .u, .u, .u, .u, .u, .u, .u, .u, .u, .u, .u, .u, .u, .u, .u, .u, .u, .u, .u, .u, .u, .u, .u, .u, .u, .u, .u, .u, .u, .u, .u, .u, .u, .u, .u, .u, .u, .u, .u, .u, .u, .u, .u, .u, .u, .u, .u, .u, .u, .u, .u, .u, .u, .u, .u, .u, .u, .u, .u, .u, .u, .u, .u, .u, .u, .u, .u, .u, .u, .u, .u, .u, .u, .u, .u, .u, .u, .u, .u, .u, .u, .u, .u, .u, .u, .u, .u, .u, .u, .u, .u, .u, .u, .u, .u, .u, .u, .u, .u, .u, .u, .u, .u, .u, .u, .u, .u, .u, .u, .u, .u, .u, .u, .u, .u, .u, .u, .u, .u, .u, .u, .u, .u, .u, .u, .u, .u, .u, .u, .u, .u, .u, .u, .u, .u, .u, .u, .u, .u, .u, .u, .u, .u, .u, .u, .u, .u, .u, .u, .u, .u, .u, .u, .u, .u, .u, .u, .u, .u, .u, .u, .u, .u, .u, .u, .u, .u, .u, .u, .u, .u, .u, .u, .u, .u, .u, .u, .u, .u, .u, .u, .u, .u, .u], [(.arr 3 (.int .i64) false)]⟩
noncomputable def g'b0 (n : Nat) (v : p'b0.V) (K : KO α) : Option α := impl_natDiv_L2 N n v.1.1 v.1.2.2.2.2.2.2.2.2.2.2.1 v.1.2.2.2.2.2.2.2.2.2.2.2.1 v.1.2.2.2.2.2.2.2.2.2.2.2.2.2.1 v.2.1 (fun o0_0 o0_1 o0_2 o0_3 => K (.normal ⟨(us 10 [(.iv (.int .i64) o0_0), (.iv (.sl (.int .i64)) o0_1), (.own 0), (.iv (.int .i64) o0_2), U, U, U, U, U, U, U, U, U, U, U, U, U, U, U, U, U, U, U, U, U, U, U, U, U, U, U, U, U, U, U, U, U, U, U, U, U, U, U, U, U, U, U, U, U, U, U, U, U, U, U, U, U, U, U, U, U, U, U, U, U, U, U, U, U, U, U, U, U, U, U, U, U, U, U, U, U, U, U, U, U, U, U, U, U, U, U, U, U, U, U, U, U, U, U, U, U, U, U, U, U, U, U, U, U, U, U, U, U, U, U, U, U, U, U, U, U, U, U, U, U, U, U, U, U, U, U, U, U, U, U, U, U, U, U, U, U, U, U, U, U, U, U, U, U, U, U, U, U, U, U, U, U, U, U, U, U, U, U, U, U, U, U, U, U, U, U, U, U, U, U, U, U, U, U, U, U, U, U, U, U, U, U, U, U, U, U, U, U, U, U, U, U, U, U, U, U, U, U, U, U, U, U, U, U, U, U, U, U, U, U, U, U, U, U, U, U, U, U, U, U, U, U, U, U, U, U, U, U, U, U, U, U, U, U, U, U, U, U, U, U, U, U, U, U, U, U, U, U, U, U, U, U, U, U, U, U, U, U, U, U, U, U]), [(.arr 3 (.int .i64) o0_3 false)]⟩))
noncomputable def p'b1 : Pt := ⟨[.u, .u, .u, .u, .u, .u, .u, .u, .u, .u, (.i (.int .i64)), (.i (.sl (.int .i64))), (.o 0), (.i (.int .i64)), (.o 1), (.i (.int .i64)), .u, (.i (.int .i64)), (.i (.int .i64)), .u, .u, .u, .u, .u, .u, .u, .u, .u, .u, .u, .u, .u, .u, .u, .u, .u, .u, .u, .u, .u, .u, .u, .u, .u, .u, .u, .u, .u, .u, .u, .u, .u, .u, .u, .u, .u, .u, .u, .u, .u, .u, .u, .u, .u, .u, .u, .u, .u, .u, .u, .u, .u, .u, .u, .u, .u, .u, .u, .u, .u, .u, .u, .u, .u, .u, .u, .u, .u, .u, .u, .u, .u, .u, .u, .u, .u, .u, .u, .u, .u, .u, .u, .u, .u, .u, .u, .u, .u, .u, .u, .u, .u, .u, .u, .u, .u, .u, .u, .u, .u, .u, .u, .u, .u, .u, .u, .u, .u, .u, .u, .u, .u, .u, .u, .u, .u, .u, .u, .u, .u, .u, .u, .u, .u, .u, .u, .u, .u, .u, .u, .u, .u, .u, .u, .u, .u, .u, .u, .u, .u, .u, .u, .u, .u, .u, .u, .u, .u, .u, .u, .u, .u, .u, .u, .u, .u, .u, .u, .u, .u, .u, .u, .u, .u, .u, .u, .u, .u, .u, .u, .u, .u, .u, .u, .u, .u, .u, .u, .u, .u, .u, .u, .u, .u, .u, .u, .u, .u, .u, .u, .u, .u, .u, .u, .u, .u, .u, .u, .u, .u, .u, .u, .u, .u, .u, .u, .u, .u, .u, .u, .u, .u, .u, .u, .u, .u, .u, .u, .u, .u, .u, .u, .u, .u, .u, .u, .u, .u, .u, .u, .u, .u, .u, .u, .u, .u, .u, .u, .u, .u, .u, .u, .u, .u, .u, .u, .u, .u, .u, .u, .u, .u, .u, .u, .u, .u, .u], [(.arr 3 (.int .i64) false), (.arr 3 (.int .i64) false)]⟩
noncomputable def g'b1 (n : Nat) (v : p'b1.V) (K : KO α) : Option α := impl_natDiv_L6 N n v.1.2.2.2.2.2.2.2.2.2.2.1 v.1.2.2.2.2.2.2.2.2.2.2.2.1 v.1.2.2.2.2.2.2.2.2.2.2.2.2.2.1 v.1.2.2.2.2.2.2.2.2.2.2.2.2.2.2.2.1 v.1.2.2.2.2.2.2.2.2.2.2.2.2.2.2.2.2.2.1 v.1.2.2.2.2.2.2.2.2.2.2.2.2.2.2.2.2.2.2.1 v.2.1 v.2.2.1 (fun o0_0 o0_1 o0_2 o0_3 o0_4 o0_5 o0_6 => K (.normal ⟨(us 10 [(.iv (.int .i64) o0_0), (.iv (.sl (.int .i64)) o0_1), (.own 0), (.iv (.int .i64) o0_2), (.own 1), (.iv (.int .i64) o0_3), U, (.iv (.int .i64) o0_4), U, U, U, U, U, U, U, U, U, U, U, U, U, U, U, U, U, U, U, U, U, U, U, U, U, U, U, U, U, U, U, U, U, U, U, U, U, U, U, U, U, U, U, U, U, U, U, U, U, U, U, U, U, U, U, U, U, U, U, U, U, U, U, U, U, U, U, U, U, U, U, U, U, U, U, U, U, U, U, U, U, U, U, U, U, U, U, U, U, U, U, U, U, U, U, U, U, U, U, U, U, U, U, U, U, U, U, U, U, U, U, U, U, U, U, U, U, U, U, U, U, U, U, U, U, U, U, U, U, U, U, U, U, U, U, U, U, U, U, U, U, U, U, U, U, U, U, U, U, U, U, U, U, U, U, U, U, U, U, U, U, U, U, U, U, U, U, U, U, U, U, U, U, U, U, U, U, U, U, U, U, U, U, U, U, U, U, U, U, U, U, U, U, U, U, U, U, U, U, U, U, U, U, U, U, U, U, U, U, U, U, U, U, U, U, U, U, U, U, U, U, U, U, U, U, U, U, U, U, U, U, U, U, U, U, U, U, U, U, U, U, U, U, U, U, U, U, U, U, U, U, U, U, U, U, U, U, U, U]), [(.arr 3 (.int .i64) o0_5 false), (.arr 3 (.int .i64) o0_6 false)]⟩))
noncomputable def p'b2 : Pt := ⟨[.u, .u, .u, .u, .u, .u, .u, .u, .u, .u, (.i (.int .i64)), (.i (.sl (.int .i64))), (.o 0), (.i (.int .i64)), (.o 1), (.i (.int .i64)), .u, (.i (.int .i64)), .u, (.i (.int .i64)), (.i (.int .i64)), .u, (.i (.int .i64)), .u, .u, .u, .u, .u, .u, .u, .u, .u, .u, .u, .u, .u, .u, .u, .u, .u, .u, .u, .u, .u, .u, .u, .u, .u, .u, .u, .u, .u, .u, .u, .u, .u, .u, .u, .u, .u, .u, .u, .u, .u, .u, .u, .u, .u, .u, .u, .u, .u, .u, .u, .u, .u, .u, .u, .u, .u, .u, .u, .u, .u, .u, .u, .u, .u, .u, .u, .u, .u, .u, .u, .u, .u, .u, .u, .u, .u, .u, .u, .u, .u, .u, .u, .u, .u, .u, .u, .u, .u, .u, .u, .u, .u, .u, .u, .u, .u, .u, .u, .u, .u, .u, .u, .u, .u, .u, .u, .u, .u, .u, .u, .u, .u, .u, .u, .u, .u, .u, .u, .u, .u, .u, .u, .u, .u, .u, .u, .u, .u, .u, .u, .u, .u, .u, .u, .u, .u, .u, .u, .u, .u, .u, .u, .u, .u, .u, .u, .u, .u, .u, .u, .u, (.i (.sl (.int .i64))), (.i (.int .i64)), (.i (.int .i64)), .u, .u, .u, .u, .u, .u, .u, .u, .u, .u, .u, .u, .u, .u, .u, .u, .u, .u, .u, .u, .u, .u, .u, .u, .u, .u, .u, .u, .u, .u, .u, .u, .u, .u, .u, .u, .u, .u, .u, .u, .u, .u, .u, .u, .u, .u, .u, .u, .u, .u, .u, .u, .u, .u, .u, .u, .u, .u, .u, .u, .u, .u, .u, .u, .u, .u, .u, .u, .u, .u, .u, .u, .u, .u, .u, .u, .u, .u, .u, .u, .u, .u, .u, .u, .u, .u, .u, .u, .u, .u, .u, .u, .u, .u, .u, .u, .u, .u, .u], [(.arr 3 (.int .i64) false), (.arr 3 (.int .i64) false)]⟩
noncomputable def z'b2 (F : type_of% @impl_natDiv_J34) (v : p'b2.V) (K : KO α) : Option α := F N v.1.2.2.2.2.2.2.2.2.2.2.1 v.1.2.2.2.2.2.2.2.2.2.2.2.1 v.1.2.2.2.2.2.2.2.2.2.2.2.2.2.1 v.1.2.2.2.2.2.2.2.2.2.2.2.2.2.2.2.1 v.1.2.2.2.2.2.2.2.2.2.2.2.2.2.2.2.2.2.1 v.1.2.2.2.2.2.2.2.2.2.2.2.2.2.2.2.2.2.2.2.1 v.1.2.2.2.2.2.2.2.2.2.2.2.2.2.2.2.2.2.2.2.2.1 v.1.2.2.2.2.2.2.2.2.2.2.2.2.2.2.2.2.2.2.2.2.2.2.1 v.1.2.2.2.2.2.2.2.2.2.2.2.2.2.2.2.2.2.2.2.2.2.2.2.2.2.2.2.2.2.2.2.2.2.2.2.2.2.2.2.2.2.2.2.2.2.2.2.2.2.2.2.2.2.2.2.2.2.2.2.2.2.2.2.2.2.2.2.2.2.2.2.2.2.2.2.2.2.2.2.2.2.2.2.2.2.2.2.2.2.2.2.2.2.2.2.2.2.2.2.2.2.2.2.2.2.2.2.2.2.2.2.2.2.2.2.2.2.2.2.2.2.2.2.2.2.2.2.2.2.2.2.2.2.2.2.2.2.2.2.2.2.2.2.2.2.2.2.2.2.2.2.2.2.2.2.2.2.2.2.2.2.2.2.2.2.2.2.2.2.2.2.2.2.2.2.1 v.1.2.2.2.2.2.2.2.2.2.2.2.2.2.2.2.2.2.2.2.2.2.2.2.2.2.2.2.2.2.2.2.2.2.2.2.2.2.2.2.2.2.2.2.2.2.2.2.2.2.2.2.2.2.2.2.2.2.2.2.2.2.2.2.2.2.2.2.2.2.2.2.2.2.2.2.2.2.2.2.2.2.2.2.2.2.2.2.2.2.2.2.2.2.2.2.2.2.2.2.2.2.2.2.2.2.2.2.2.2.2.2.2.2.2.2.2.2.2.2.2.2.2.2.2.2.2.2.2.2.2.2.2.2.2.2.2.2.2.2.2.2.2.2.2.2.2.2.2.2.2.2.2.2.2.2.2.2.2.2.2.2.2.2.2.2.2.2.2.2.2.2.2.2.2.2.2.1 v.1.2.2.2.2.2.2.2.2.2.2.2.2.2.2.2.2.2.2.2.2.2.2.2.2.2.2.2.2.2.2.2.2.2.2.2.2.2.2.2.2.2.2.2.2.2.2.2.2.2.2.2.2.2.2.2.2.2.2.2.2.2.2.2.2.2.2.2.2.2.2.2.2.2.2.2.2.2.2.2.2.2.2.2.2.2.2.2.2.2.2.2.2.2.2.2.2.2.2.2.2.2.2.2.2.2.2.2.2.2.2.2.2.2.2.2.2.2.2.2.2.2.2.2.2.2.2.2.2.2.2.2.2.2.2.2.2.2.2.2.2.2.2.2.2.2.2.2.2.2.2.2.2.2.2.2.2.2.2.2.2.2.2.2.2.2.2.2.2.2.2.2.2.2.2.2.2.2.1 v.2.1 v.2.2.1 (fun o0_0 o0_1 o0_2 o0_3 o0_4 o0_5 o0_6 o0_7 o0_8 o0_9 o0_10 o0_11 o0_12 => K (.normal ⟨(us 10 [(.iv (.int .i64) o0_0), (.iv (.sl (.int .i64)) o0_1), (.own 0), (.iv (.int .i64) o0_2), (.own 1), (.iv (.int .i64) o0_3), U, (.iv (.int .i64) o0_4), U, (.iv (.int .i64) o0_5), (.iv (.int .i64) o0_6), U, (.iv (.int .i64) o0_7), U, U, U, U, U, U, U, U, U, U, U, U, U, U, U, U, U, U, U, U, U, U, U, U, U, U, U, U, U, U, U, U, U, U, U, U, U, U, U, U, U, U, U, U, U, U, U, U, U, U, U, U, U, U, U, U, U, U, U, U, U, U, U, U, U, U, U, U, U, U, U, U, U, U, U, U, U, U, U, U, U, U, U, U, U, U, U, U, U, U, U, U, U, U, U, U, U, U, U, U, U, U, U, U, U, U, U, U, U, U, U, U, U, U, U, U, U, U, U, U, U, U, U, U, U, U, U, U, U, U, U, U, U, U, U, U, U, U, U, U, U, U, U, U, U, U, U, U, U, U, U, U, (.iv (.sl (.int .i64)) o0_8), (.iv (.int .i64) o0_9), (.iv (.int .i64) o0_10), U, U, U, U, U, U, U, U, U, U, U, U, U, U, U, U, U, U, U, U, U, U, U, U, U, U, U, U, U, U, U, U, U, U, U, U, U, U, U, U, U, U, U, U, U, U, U, U, U, U, U, U, U, U, U, U, U, U, U, U, U, U, U, U, U, U, U, U, U, U, U, U, U, U, U, U, U, U, U, U, U, U, U, U, U, U, U, U, U, U, U, U, U, U, U, U, U, U, U]), [(.arr 3 (.int .i64) o0_11 false), (.arr 3 (.int .i64) o0_12 false)]⟩))
noncomputable def g'b2 (v : p'b2.V) (K : KO α) : Option α := z'b2 N @impl_natDiv_J34 v K
noncomputable def p'b3 : Pt := ⟨[.u, .u, .u, .u, .u, .u, .u, .u, .u, .u, (.i (.int .i64)), (.i (.sl (.int .i64))), (.o 0), (.i (.int .i64)), (.o 1), (.i (.int .i64)), .u, (.i (.int .i64)), .u, (.i (.int .i64)), .u, .u, .u, .u, .u, .u, .u, .u, .u, .u, .u, .u, .u, .u, .u, .u, .u, .u, .u, .u, .u, .u, .u, .u, .u, .u, .u, .u, .u, .u, .u, .u, .u, .u, .u, .u, .u, .u, .u, .u, .u, .u, .u, .u, .u, .u, .u, .u, .u, .u, .u, .u, .u, .u, .u, .u, .u, .u, .u, .u, .u, .u, .u, .u, .u, .u, .u, .u, .u, .u, .u, .u, .u, .u, .u, .u, .u, .u, .u, .u, .u, .u, .u, .u, .u, .u, .u, .u, .u, .u, .u, .u, .u, .u, .u, .u, .u, .u, .u, .u, .u, .u, .u, .u, .u, .u, .u, .u, .u, .u, .u, .u, .u, .u, .u, .u, .u, .u, .u, .u, .u, .u, .u, .u, .u, .u, .u, .u, .u, .u, .u, .u, .u, .u, .u, .u, .u, .u, .u, .u, .u, .u, .u, .u, .u, .u, .u, .u, .u, .u, .u, .u, .u, .u, .u, (.i (.sl (.int .i64))), (.i (.int .i64)), (.i (.int .i64)), .u, .u, .u, .u, .u, .u, .u, .u, .u, .u, .u, .u, .u, .u, .u, .u, .u, .u, .u, .u, .u, .u, .u, .u, .u, .u, .u, .u, .u, .u, .u, .u, .u, .u, .u, .u, .u, .u, .u, .u, .u, .u, .u, .u, .u, .u, .u, .u, .u, .u, .u, .u, .u, .u, .u, .u, .u, .u, .u, .u, .u, .u, .u, .u, .u, .u, .u, .u, .u, .u, .u, .u, .u, .u, .u, .u, .u, .u, .u, .u, .u, .u, .u, .u, .u, .u, .u, .u, .u, .u, .u, .u, .u, .u, .u, .u, .u, .u, .u], [(.arr 3 (.int .i64) false), (.arr 3 (.int .i64) false)]⟩
noncomputable def g'b3 (n : Nat) (v : p'b3.V) (K : KO α) : Option α := impl_natDiv_L8 N n v.1.2.2.2.2.2.2.2.2.2.2.1 v.1.2.2.2.2.2.2.2.2.2.2.2.1 v.1.2.2.2.2.2.2.2.2.2.2.2.2.2.1 v.1.2.2.2.2.2.2.2.2.2.2.2.2.2.2.2.1 v.1.2.2.2.2.2.2.2.2.2.2.2.2.2.2.2.2.2.1 v.1.2.2.2.2.2.2.2.2.2.2.2.2.2.2.2.2.2.2.2.1 v.1.2.2.2.2.2.2.2.2.2.2.2.2.2.2.2.2.2.2.2.2.2.2.2.2.2.2.2.2.2.2.2.2.2.2.2.2.2.2.2.2.2.2.2.2.2.2.2.2.2.2.2.2.2.2.2.2.2.2.2.2.2.2.2.2.2.2.2.2.2.2.2.2.2.2.2.2.2.2.2.2.2.2.2.2.2.2.2.2.2.2.2.2.2.2.2.2.2.2.2.2.2.2.2.2.2.2.2.2.2.2.2.2.2.2.2.2.2.2.2.2.2.2.2.2.2.2.2.2.2.2.2.2.2.2.2.2.2.2.2.2.2.2.2.2.2.2.2.2.2.2.2.2.2.2.2.2.2.2.2.2.2.2.2.2.2.2.2.2.2.2.2.2.2.2.2.1 v.1.2.2.2.2.2.2.2.2.2.2.2.2.2.2.2.2.2.2.2.2.2.2.2.2.2.2.2.2.2.2.2.2.2.2.2.2.2.2.2.2.2.2.2.2.2.2.2.2.2.2.2.2.2.2.2.2.2.2.2.2.2.2.2.2.2.2.2.2.2.2.2.2.2.2.2.2.2.2.2.2.2.2.2.2.2.2.2.2.2.2.2.2.2.2.2.2.2.2.2.2.2.2.2.2.2.2.2.2.2.2.2.2.2.2.2.2.2.2.2.2.2.2.2.2.2.2.2.2.2.2.2.2.2.2.2.2.2.2.2.2.2.2.2.2.2.2.2.2.2.2.2.2.2.2.2.2.2.2.2.2.2.2.2.2.2.2.2.2.2.2.2.2.2.2.2.2.1 v.1.2.2.2.2.2.2.2.2.2.2.2.2.2.2.2.2.2.2.2.2.2.2.2.2.2.2.2.2.2.2.2.2.2.2.2.2.2.2.2.2.2.2.2.2.2.2.2.2.2.2.2.2.2.2.2.2.2.2.2.2.2.2.2.2.2.2.2.2.2.2.2.2.2.2.2.2.2.2.2.2.2.2.2.2.2.2.2.2.2.2.2.2.2.2.2.2.2.2.2.2.2.2.2.2.2.2.2.2.2.2.2.2.2.2.2.2.2.2.2.2.2.2.2.2.2.2.2.2.2.2.2.2.2.2.2.2.2.2.2.2.2.2.2.2.2.2.2.2.2.2.2.2.2.2.2.2.2.2.2.2.2.2.2.2.2.2.2.2.2.2.2.2.2.2.2.2.2.1 v.2.1 v.2.2.1 (fun o0_0 o0_1 o0_2 o0_3 o0_4 o0_5 o0_6 o0_7 => K (.normal ⟨(us 10 [(.iv (.int .i64) o0_0), (.iv (.sl (.int .i64)) o0_1), (.own 0), (.iv (.int .i64) o0_2), (.own 1), (.iv (.int .i64) o0_3), U, (.iv (.int .i64) o0_4), U, (.iv (.int .i64) o0_5), U, U, U, U, U, U, U, U, U, U, U, U, U, U, U, U, U, U, U, U, U, U, U, U, U, U, U, U, U, U, U, U, U, U, U, U, U, U, U, U, U, U, U, U, U, U, U, U, U, U, U, U, U, U, U, U, U, U, U, U, U, U, U, U, U, U, U, U, U, U, U, U, U, U, U, U, U, U, U, U, U, U, U, U, U, U, U, U, U, U, U, U, U, U, U, U, U, U, U, U, U, U, U, U, U, U, U, U, U, U, U, U, U, U, U, U, U, U, U, U, U, U, U, U, U, U, U, U, U, U, U, U, U, U, U, U, U, U, U, U, U, U, U, U, U, U, U, U, U, U, U, U, U, U, U, U, U, U, U, U, U, U, U, U, U, U, U, U, U, U, U, U, U, U, U, U, U, U, U, U, U, U, U, U, U, U, U, U, U, U, U, U, U, U, U, U, U, U, U, U, U, U, U, U, U, U, U, U, U, U, U, U, U, U, U, U, U, U, U, U, U, U, U, U, U, U, U, U, U, U, U, U, U, U, U, U, U, U, U, U, U, U, U, U, U, U, U, U, U, U, U, U, U, U, U, U, U]), [(.arr 3 (.int .i64) o0_6 false), (.arr 3 (.int .i64) o0_7 false)]⟩))
noncomputable def p'b4 : Pt := ⟨[.u, .u, .u, .u, .u, .u, .u, .u, .u, .u, (.i (.int .i64)), (.i (.sl (.int .i64))), (.o 0), (.i (.int .i64)), (.o 1), (.i (.int .i64)), .u, (.i (.int .i64)), .u, .u, .u, .u, .u, (.i (.int .i64)), .u, .u, .u, .u, .u, .u, .u, .u, .u, .u, .u, .u, .u, .u, .u, .u, .u, .u, .u, .u, .u, .u, .u, .u, .u, .u, .u, .u, .u, .u, .u, .u, .u, .u, .u, .u, .u, .u, .u, .u, .u, .u, .u, .u, .u, .u, .u, .u, .u, .u, .u, .u, .u, .u, .u, .u, .u, .u, .u, .u, .u, .u, .u, .u, .u, .u, .u, .u, .u, .u, .u, .u, .u, .u, .u, .u, .u, .u, .u, .u, .u, .u, .u, .u, .u, .u, .u, .u, .u, .u, .u, .u, .u, .u, .u, .u, .u, .u, .u, .u, .u, .u, .u, .u, .u, .u, .u, .u, .u, .u, .u, .u, .u, .u, .u, .u, .u, .u, .u, .u, .u, .u, .u, .u, .u, .u, .u, .u, .u, .u, .u, .u, .u, .u, .u, .u, .u, .u, .u, .u, .u, .u, .u, .u, .u, .u, .u, .u, .u, .u, .u, .u, .u, .u, .u, .u, .u, .u, .u, .u, .u, .u, .u, .u, .u, .u, .u, .u, .u, .u, .u, .u, .u, .u, .u, .u, .u, .u, .u, .u, .u, .u, .u, .u, .u, .u, .u, .u, .u, .u, .u, .u, .u, .u, .u, .u, .u, .u, .u, .u, .u, .u, .u, .u, .u, .u, (.i (.sl (.int .i64))), (.i (.int .i64)), (.i (.int .i64)), .u, .u, .u, .u, .u, .u, .u, .u, .u, .u, .u, .u, .u, .u, .u, .u, .u, .u, .u, .u, .u, .u, .u, .u, .u, .u, .u, .u, .u, .u, .u, .u, .u, .u, .u, .u, .u, .u, .u, .u, .u, .u, .u, .u], [(.arr 3 (.int .i64) false), (.arr 3 (.int .i64) false)]⟩
noncomputable def g'b4 (n : Nat) (v : p'b4.V) (K : KO α) : Option α := impl_natDiv_L10 N n v.1.2.2.2.2.2.2.2.2.2.2.1 v.1.2.2.2.2.2.2.2.2.2.2.2.1 v.1.2.2.2.2.2.2.2.2.2.2.2.2.2.1 v.1.2.2.2.2.2.2.2.2.2.2.2.2.2.2.2.1 v.1.2.2.2.2.2.2.2.2.2.2.2.2.2.2.2.2.2.1 v.1.2.2.2.2.2.2.2.2.2.2.2.2.2.2.2.2.2.2.2.2.2.2.2.1 v.1.2.2.2.2.2.2.2.2.2.2.2.2.2.2.2.2.2.2.2.2.2.2.2.2.2.2.2.2.2.2.2.2.2.2.2.2.2.2.2.2.2.2.2.2.2.2.2.2.2.2.2.2.2.2.2.2.2.2.2.2.2.2.2.2.2.2.2.2.2.2.2.2.2.2.2.2.2.2.2.2.2.2.2.2.2.2.2.2.2.2.2.2.2.2.2.2.2.2.2.2.2.2.2.2.2.2.2.2.2.2.2.2.2.2.2.2.2.2.2.2.2.2.2.2.2.2.2.2.2.2.2.2.2.2.2.2.2.2.2.2.2.2.2.2.2.2.2.2.2.2.2.2.2.2.2.2.2.2.2.2.2.2.2.2.2.2.2.2.2.2.2.2.2.2.2.2.2.2.2.2.2.2.2.2.2.2.2.2.2.2.2.2.2.2.2.2.2.2.2.2.2.2.2.2.2.2.2.2.2.2.2.2.2.2.2.2.2.2.2.2.2.2.2.2.2.2.2.2.2.2.1 v.1.2.2.2.2.2.2.2.2.2.2.2.2.2.2.2.2.2.2.2.2.2.2.2.2.2.2.2.2.2.2.2.2.2.2.2.2.2.2.2.2.2.2.2.2.2.2.2.2.2.2.2.2.2.2.2.2.2.2.2.2.2.2.2.2.2.2.2.2.2.2.2.2.2.2.2.2.2.2.2.2.2.2.2.2.2.2.2.2.2.2.2.2.2.2.2.2.2.2.2.2.2.2.2.2.2.2.2.2.2.2.2.2.2.2.2.2.2.2.2.2.2.2.2.2.2.2.2.2.2.2.2.2.2.2.2.2.2.2.2.2.2.2.2.2.2.2.2.2.2.2.2.2.2.2.2.2.2.2.2.2.2.2.2.2.2.2.2.2.2.2.2.2.2.2.2.2.2.2.2.2.2.2.2.2.2.2.2.2.2.2.2.2.2.2.2.2.2.2.2.2.2.2.2.2.2.2.2.2.2.2.2.2.2.2.2.2.2.2.2.2.2.2.2.2.2.2.2.2.2.2.2.1 v.1.2.2.2.2.2.2.2.2.2.2.2.2.2.2.2.2.2.2.2.2.2.2.2.2.2.2.2.2.2.2.2.2.2.2.2.2.2.2.2.2.2.2.2.2.2.2.2.2.2.2.2.2.2.2.2.2.2.2.2.2.2.2.2.2.2.2.2.2.2.2.2.2.2.2.2.2.2.2.2.2.2.2.2.2.2.2.2.2.2.2.2.2.2.2.2.2.2.2.2.2.2.2.2.2.2.2.2.2.2.2.2.2.2.2.2.2.2.2.2.2.2.2.2.2.2.2.2.2.2.2.2.2.2.2.2.2.2.2.2.2.2.2.2.2.2.2.2.2.2.2.2.2.2.2.2.2.2.2.2.2.2.2.2.2.2.2.2.2.2.2.2.2.2.2.2.2.2.2.2.2.2.2.2.2.2.2.2.2.2.2.2.2.2.2.2.2.2.2.2.2.2.2.2.2.2.2.2.2.2.2.2.2.2.2.2.2.2.2.2.2.2.2.2.2.2.2.2.2.2.2.2.2.1 v.2.1 v.2.2.1 (fun o0_0 o0_1 o0_2 o0_3 o0_4 o0_5 o0_6 o0_7 => K (.normal ⟨(us 10 [(.iv (.int .i64) o0_0), (.iv (.sl (.int .i64)) o0_1), (.own 0), (.iv (.int .i64) o0_2), (.own 1), (.iv (.int .i64) o0_3), U, (.iv (.int .i64) o0_4), U, U, U, U, U, (.iv (.int .i64) o0_5), U, U, U, U, U, U, U, U, U, U, U, U, U, U, U, U, U, U, U, U, U, U, U, U, U, U, U, U, U, U, U, U, U, U, U, U, U, U, U, U, U, U, U, U, U, U, U, U, U, U, U, U, U, U, U, U, U, U, U, U, U, U, U, U, U, U, U, U, U, U, U, U, U, U, U, U, U, U, U, U, U, U, U, U, U, U, U, U, U, U, U, U, U, U, U, U, U, U, U, U, U, U, U, U, U, U, U, U, U, U, U, U, U, U, U, U, U, U, U, U, U, U, U, U, U, U, U, U, U, U, U, U, U, U, U, U, U, U, U, U, U, U, U, U, U, U, U, U, U, U, U, U, U, U, U, U, U, U, U, U, U, U, U, U, U, U, U, U, U, U, U, U, U, U, U, U, U, U, U, U, U, U, U, U, U, U, U, U, U, U, U, U, U, U, U, U, U, U, U, U, U, U, U, U, U, U, U, U, U, U, U, U, U, U, U, U, U, U, U, U, U, U, U, U, U, U, U, U, U, U, U, U, U, U, U, U, U, U, U, U, U, U, U, U, U, U, U, U, U, U, U, U, U]), [(.arr 3 (.int .i64) o0_6 false), (.arr 3 (.int .i64) o0_7 false)]⟩))
noncomputable def p'b5 : Pt := ⟨[.u, .u, .u, .u, .u, .u, .u, .u, .u, .u, (.i (.int .i64)), (.i (.sl (.int .i64))), (.o 0), (.i (.int .i64)), (.o 1), (.i (.int .i64)), .u, (.i (.int .i64)), .u, .u, .u, .u, .u, .u, .u, .u, .u, .u, .u, .u, .u, .u, .u, .u, .u, .u, .u, .u, .u, .u, .u, .u, .u, .u, .u, .u, .u, .u, .u, .u, .u, .u, .u, .u, .u, .u, .u, .u, .u, .u, .u, .u, .u, .u, .u, .u, .u, .u, .u, .u, .u, .u, .u, .u, .u, .u, .u, .u, .u, .u, .u, .u, .u, .u, .u, .u, .u, .u, .u, .u, .u, .u, .u, .u, .u, .u, .u, .u, .u, .u, .u, .u, .u, .u, .u, .u, .u, .u, .u, .u, .u, .u, .u, .u, .u, .u, .u, .u, .u, .u, .u, .u, .u, .u, .u, .u, .u, .u, .u, .u, .u, .u, .u, .u, .u, .u, .u, .u, .u, .u, .u, .u, .u, .u, .u, .u, .u, .u, .u, .u, .u, .u, .u, .u, .u, .u, .u, .u, .u, .u, .u, .u, .u, .u, .u, .u, .u, .u, .u, .u, .u, .u, .u, .u, .u, .u, .u, .u, .u, .u, .u, .u, .u, .u, .u, .u, .u, .u, .u, .u, .u, .u, .u, .u, .u, .u, .u, .u, .u, .u, .u, .u, .u, .u, .u, .u, .u, .u, .u, .u, .u, .u, .u, .u, .u, .u, .u, .u, .u, .u, .u, .u, .u, .u, .u, .u, .u, .u, .u, .u, .u, .u, .u, .u, .u, .u, .u, .u, .u, .u, .u, .u, .u, .u, .u, .u, .u, .u, .u, .u, .u, .u, .u, .u, .u, .u, .u, .u, .u, .u, .u, .u, .u, .u, .u, .u, .u, .u, .u, .u, .u, .u, .u, .u, .u, .u, .u], [(.arr 3 (.int .i64) false), (.arr 3 (.int .i64) false)]⟩
noncomputable def z'b5 (F : type_of% @impl_natDiv_J40) (v : p'b5.V) (K : KO α) : Option α := F N v.1.2.2.2.2.2.2.2.2.2.2.1 v.1.2.2.2.2.2.2.2.2.2.2.2.1 v.1.2.2.2.2.2.2.2.2.2.2.2.2.2.1 v.1.2.2.2.2.2.2.2.2.2.2.2.2.2.2.2.1 v.1.2.2.2.2.2.2.2.2.2.2.2.2.2.2.2.2.2.1 v.2.1 v.2.2.1 (fun o0_0 o0_1 o0_2 o0_3 o0_4 o0_5 o0_6 => K (.normal ⟨(us 10 [(.iv (.int .i64) o0_0), (.iv (.sl (.int .i64)) o0_1), (.own 0), (.iv (.int .i64) o0_2), (.own 1), (.iv (.int .i64) o0_3), U, (.iv (.int .i64) o0_4), U, U, U, U, U, U, U, U, U, U, U, U, U, U, U, U, U, U, U, U, U, U, U, U, U, U, U, U, U, U, U, U, U, U, U, U, U, U, U, U, U, U, U, U, U, U, U, U, U, U, U, U, U, U, U, U, U, U, U, U, U, U, U, U, U, U, U, U, U, U, U, U, U, U, U, U, U, U, U, U, U, U, U, U, U, U, U, U, U, U, U, U, U, U, U, U, U, U, U, U, U, U, U, U, U, U, U, U, U, U, U, U, U, U, U, U, U, U, U, U, U, U, U, U, U, U, U, U, U, U, U, U, U, U, U, U, U, U, U, U, U, U, U, U, U, U, U, U, U, U, U, U, U, U, U, U, U, U, U, U, U, U, U, U, U, U, U, U, U, U, U, U, U, U, U, U, U, U, U, U, U, U, U, U, U, U, U, U, U, U, U, U, U, U, U, U, U, U, U, U, U, U, U, U, U, U, U, U, U, U, U, U, U, U, U, U, U, U, U, U, U, U, U, U, U, U, U, U, U, U, U, U, U, U, U, U, U, U, U, U, U, U, U, U, U, U, U, U, U, U, U, U, U, U, U, U, U, U, U]), [(.arr 3 (.int .i64) o0_5 false), (.arr 3 (.int .i64) o0_6 false)]⟩))
noncomputable def g'b5 (v : p'b5.V) (K : KO α) : Option α := z'b5 N @impl_natDiv_J40 v K
noncomputable def p'b6 : Pt := ⟨[.u, .u, .u, .u, .u, .u, .u, .u, .u, .u, (.i (.int .i64)), (.i (.sl (.int .i64))), (.o 0), (.i (.int .i64)), (.o 1), (.i (.int .i64)), .u, .u, .u, .u, .u, .u, .u, .u, .u, .u, .u, .u, .u, .u, .u, .u, .u, .u, .u, .u, .u, .u, .u, .u, .u, .u, .u, .u, .u, .u, .u, .u, .u, .u, .u, .u, .u, .u, .u, .u, .u, .u, .u, .u, .u, .u, .u, .u, .u, .u, .u, .u, .u, .u, .u, .u, .u, .u, .u, .u, .u, .u, .u, .u, .u, .u, .u, .u, .u, .u, .u, .u, .u, .u, .u, .u, .u, .u, .u, .u, .u, .u, .u, .u, .u, .u, .u, .u, .u, .u, .u, .u, .u, .u, .u, .u, .u, .u, .u, .u, .u, .u, .u, .u, .u, .u, .u, .u, .u, .u, .u, .u, .u, .u, .u, .u, .u, .u, .u, .u, .u, .u, .u, .u, .u, .u, .u, .u, .u, .u, .u, .u, .u, .u, .u, .u, .u, .u, .u, .u, .u, .u, .u, .u, .u, .u, .u, .u, .u, .u, .u, .u, .u, .u, .u, .u, .u, .u, .u, .u, .u, .u, .u, .u, .u, .u, .u, .u, .u, .u, .u, .u, .u, .u, .u, .u, .u, .u, .u, .u, .u, .u, .u, .u, .u, .u, .u, .u, .u, .u, .u, .u, .u, .u, .u, .u, .u, .u, .u, .u, .u, .u, .u, .u, .u, .u, .u, .u, .u, .u, .u, .u, .u, .u, .u, .u, .u, .u, .u, .u, .u, .u, .u, .u, .u, .u, .u, .u, .u, .u, .u, .u, .u, .u, .u, .u, .u, .u, .u, .u, .u, .u, .u, .u, .u, .u, .u, .u, .u, .u, .u, .u, .u, .u, .u, .u, .u, .u, .u, .u, .u], [(.arr 3 (.int .i64) false), (.arr 3 (.int .i64) false)]⟩
noncomputable def g'b6 (n : Nat) (v : p'b6.V) (K : KO α) : Option α := impl_natDiv_L4 N n v.1.2.2.2.2.2.2.2.2.2.2.1 v.1.2.2.2.2.2.2.2.2.2.2.2.1 v.1.2.2.2.2.2.2.2.2.2.2.2.2.2.1 v.1.2.2.2.2.2.2.2.2.2.2.2.2.2.2.2.1 v.2.1 v.2.2.1 (fun o0_0 o0_1 o0_2 => K (.normal ⟨(us 10 [(.iv (.int .i64) o0_0), U, (.own 0), U, (.own 1), U, U, U, U, U, U, U, U, U, U, U, U, U, U, U, U, U, U, U, U, U, U, U, U, U, U, U, U, U, U, U, U, U, U, U, U, U, U, U, U, U, U, U, U, U, U, U, U, U, U, U, U, U, U, U, U, U, U, U, U, U, U, U, U, U, U, U, U, U, U, U, U, U, U, U, U, U, U, U, U, U, U, U, U, U, U, U, U, U, U, U, U, U, U, U, U, U, U, U, U, U, U, U, U, U, U, U, U, U, U, U, U, U, U, U, U, U, U, U, U, U, U, U, U, U, U, U, U, U, U, U, U, U, U, U, U, U, U, U, U, U, U, U, U, U, U, U, U, U, U, U, U, U, U, U, U, U, U, U, U, U, U, U, U, U, U, U, U, U, U, U, U, U, U, U, U, U, U, U, U, U, U, U, U, U, U, U, U, U, U, U, U, U, U, U, U, U, U, U, U, U, U, U, U, U, U, U, U, U, U, U, U, U, U, U, U, U, U, U, U, U, U, U, U, U, U, U, U, U, U, U, U, U, U, U, U, U, U, U, U, U, U, U, U, U, U, U, U, U, U, U, U, U, U, U, U, U, U, U, U, U, U]), [(.arr 3 (.int .i64) o0_1 false), (.arr 3 (.int .i64) o0_2 false)]⟩))
noncomputable def q'bZ (N : Nat) : Piece := (mkPiece 86021 p'bZ (g'bZ N N))
noncomputable def q'b0 (N : Nat) : Piece := (mkPiece 89128961 p'b0 (g'b0 N N))
noncomputable def q'b1 (N : Nat) : Piece := (mkPiece 87330652160 p'b1 (g'b1 N N))
noncomputable def q'b2 (N : Nat) : Piece := (mkPiece 48163470935791501743827238801343825756727864772533903598489365627125380397858180969470389615331624604401664 p'b2 (g'b2 N))
noncomputable def q'b3 (N : Nat) : Piece := (mkPiece 48163470935791501743827238801343825756727864772533903598489365627125380397858180969470389615312932906729472 p'b3 (g'b3 N N))
noncomputable def q'b4 (N : Nat) : Piece := (mkPiece 62519759709010922297490636659294598026962815280880350273172660972721869006362035772825649418195086855274549058484591561130912364074273603584 p'b4 (g'b4 N N))
noncomputable def q'b5 (N : Nat) : Piece := (mkPiece 18611175424 p'b5 (g'b5 N))
noncomputable def q'b6 (N : Nat) : Piece := (mkPiece 1431306240 p'b6 (g'b6 N N))
noncomputable def i'b7 (N : Nat) : Fi := { loans := 0, owns := false, results := [.tmp 4, .tmp 5], rtys := [23, 23], blks := [(0, q'bZ N), (2, q'b0 N), (6, q'b1 N), (8, q'b3 N), (10, q'b4 N), (4, q'b6 N)], regs := [(34, q'b2 N), (40, q'b5 N)], masks := [(0, 20480), (2, 89128960), (4, 286261248), (6, 18611175424), (8, 293489082368), (10, 70387355353088)] }
noncomputable def b'b7 : Code := match Tryz.f64.body with | some c => c | none => .skip
theorem e'bZ (n : Nat) (v : p'bZ.V) (K : KO α) : runRound env (ct62 N) (i'b7 N) 86021 (mkPiece 86021 p'bZ (g'bZ N n)).run (.block 0 (.loop (codeAt b'b7 [1, 1, 0, 1, 0, 1, 1, 0, 1, 0, 0]))) (p'bZ.mk' v) K = g'bZ N (n + 1) v K := Eq.trans (b := impl_natDiv_L0r N (fun y0 y1 y2 y3 y4 => impl_natDiv_L0 N n y0 y1 y2 y3 y4 (fun o0_0 o0_1 => K (.normal ⟨(us 6 [(.own 0), (.iv (.int .i64) o0_0), U, U, U, U, U, U, U, U, U, U, U, U, U, U, U, U, U, U, U, U, U, U, U, U, U, U, U, U, U, U, U, U, U, U, U, U, U, U, U, U, U, U, U, U, U, U, U, U, U, U, U, U, U, U, U, U, U, U, U, U, U, U, U, U, U, U, U, U, U, U, U, U, U, U, U, U, U, U, U, U, U, U, U, U, U, U, U, U, U, U, U, U, U, U, U, U, U, U, U, U, U, U, U, U, U, U, U, U, U, U, U, U, U, U, U, U, U, U, U, U, U, U, U, U, U, U, U, U, U, U, U, U, U, U, U, U, U, U, U, U, U, U, U, U, U, U, U, U, U, U, U, U, U, U, U, U, U, U, U, U, U, U, U, U, U, U, U, U, U, U, U, U, U, U, U, U, U, U, U, U, U, U, U, U, U, U, U, U, U, U, U, U, U, U, U, U, U, U, U, U, U, U, U, U, U, U, U, U, U, U, U, U, U, U, U, U, U, U, U, U, U, U, U, U, U, U, U, U, U, U, U, U, U, U, U, U, U, U, U, U, U, U, U, U, U, U, U, U, U, U, U, U, U, U, U, U, U, U, U, U, U, U, U, U, U, U, U, U, U]), [(.arr 3 (.int .i64) o0_1 false)]⟩))) (fun o0_0 o0_1 => K (.normal ⟨(us 6 [(.own 0), (.iv (.int .i64) o0_0), U, U, U, U, U, U, U, U, U, U, U, U, U, U, U, U, U, U, U, U, U, U, U, U, U, U, U, U, U, U, U, U, U, U, U, U, U, U, U, U, U, U, U, U, U, U, U, U, U, U, U, U, U, U, U, U, U, U, U, U, U, U, U, U, U, U, U, U, U, U, U, U, U, U, U, U, U, U, U, U, U, U, U, U, U, U, U, U, U, U, U, U, U, U, U, U, U, U, U, U, U, U, U, U, U, U, U, U, U, U, U, U, U, U, U, U, U, U, U, U, U, U, U, U, U, U, U, U, U, U, U, U, U, U, U, U, U, U, U, U, U, U, U, U, U, U, U, U, U, U, U, U, U, U, U, U, U, U, U, U, U, U, U, U, U, U, U, U, U, U, U, U, U, U, U, U, U, U, U, U, U, U, U, U, U, U, U, U, U, U, U, U, U, U, U, U, U, U, U, U, U, U, U, U, U, U, U, U, U, U, U, U, U, U, U, U, U, U, U, U, U, U, U, U, U, U, U, U, U, U, U, U, U, U, U, U, U, U, U, U, U, U, U, U, U, U, U, U, U, U, U, U, U, U, U, U, U, U, U, U, U, U, U, U, U, U, U, U, U]), [(.arr 3 (.int .i64) o0_1 false)]⟩)) v.1.1 v.1.2.1 v.1.2.2.2.2.2.2.2.1 v.1.2.2.2.2.2.2.2.2.1 v.2.1) (by kernel_rfl) (by unfold g'bZ; rw [impl_natDiv_L0.succ])
theorem o'bZ (N : Nat) : PieceOK gd P (i'b7 N) (.block 0 (.loop (codeAt b'b7 [1, 1, 0, 1, 0, 1, 1, 0, 1, 0, 0]))) (mkPiece 86021 p'bZ (g'bZ N N)) :=
  piece_loop hE hP (hct62 N) (AllOK.of (F := i'b7 N) (l := []) (by kernel_rfl) .nil) (fun n {_} => g'bZ N n) (fun _ _ => by unfold g'bZ; rw [impl_natDiv_L0.zero]) (fun n {_} v K => e'bZ N n v K) N
theorem oq'bZ (N : Nat) : PieceOK gd P (i'b7 N) (.block 0 (.loop (codeAt b'b7 [1, 1, 0, 1, 0, 1, 1, 0, 1, 0, 0]))) (q'bZ N) := (o'bZ N)
theorem e'b0 (n : Nat) (v : p'b0.V) (K : KO α) : runRound env (ct62 N) (i'b7 N) 89128961 (mkPiece 89128961 p'b0 (g'b0 N n)).run (.block 2 (.loop (codeAt b'b7 [1, 1, 1, 1, 1, 1, 1, 0, 0, 0]))) (p'b0.mk' v) K = g'b0 N (n + 1) v K := Eq.trans (b := impl_natDiv_L2r N (fun y0 y1 y2 y3 y4 => impl_natDiv_L2 N n y0 y1 y2 y3 y4 (fun o0_0 o0_1 o0_2 o0_3 => K (.normal ⟨(us 10 [(.iv (.int .i64) o0_0), (.iv (.sl (.int .i64)) o0_1), (.own 0), (.iv (.int .i64) o0_2), U, U, U, U, U, U, U, U, U, U, U, U, U, U, U, U, U, U, U, U, U, U, U, U, U, U, U, U, U, U, U, U, U, U, U, U, U, U, U, U, U, U, U, U, U, U, U, U, U, U, U, U, U, U, U, U, U, U, U, U, U, U, U, U, U, U, U, U, U, U, U, U, U, U, U, U, U, U, U, U, U, U, U, U, U, U, U, U, U, U, U, U, U, U, U, U, U, U, U, U, U, U, U, U, U, U, U, U, U, U, U, U, U, U, U, U, U, U, U, U, U, U, U, U, U, U, U, U, U, U, U, U, U, U, U, U, U, U, U, U, U, U, U, U, U, U, U, U, U, U, U, U, U, U, U, U, U, U, U, U, U, U, U, U, U, U, U, U, U, U, U, U, U, U, U, U, U, U, U, U, U, U, U, U, U, U, U, U, U, U, U, U, U, U, U, U, U, U, U, U, U, U, U, U, U, U, U, U, U, U, U, U, U, U, U, U, U, U, U, U, U, U, U, U, U, U, U, U, U, U, U, U, U, U, U, U, U, U, U, U, U, U, U, U, U, U, U, U, U, U, U, U, U, U, U, U, U, U, U, U, U, U, U]), [(.arr 3 (.int .i64) o0_3 false)]⟩))) (fun o0_0 o0_1 o0_2 o0_3 => K (.normal ⟨(us 10 [(.iv (.int .i64) o0_0), (.iv (.sl (.int .i64)) o0_1), (.own 0), (.iv (.int .i64) o0_2), U, U, U, U, U, U, U, U, U, U, U, U, U, U, U, U, U, U, U, U, U, U, U, U, U, U, U, U, U, U, U, U, U, U, U, U, U, U, U, U, U, U, U, U, U, U, U, U, U, U, U, U, U, U, U, U, U, U, U, U, U, U, U, U, U, U, U, U, U, U, U, U, U, U, U, U, U, U, U, U, U, U, U, U, U, U, U, U, U, U, U, U, U, U, U, U, U, U, U, U, U, U, U, U, U, U, U, U, U, U, U, U, U, U, U, U, U, U, U, U, U, U, U, U, U, U, U, U, U, U, U, U, U, U, U, U, U, U, U, U, U, U, U, U, U, U, U, U, U, U, U, U, U, U, U, U, U, U, U, U, U, U, U, U, U, U, U, U, U, U, U, U, U, U, U, U, U, U, U, U, U, U, U, U, U, U, U, U, U, U, U, U, U, U, U, U, U, U, U, U, U, U, U, U, U, U, U, U, U, U, U, U, U, U, U, U, U, U, U, U, U, U, U, U, U, U, U, U, U, U, U, U, U, U, U, U, U, U, U, U, U, U, U, U, U, U, U, U, U, U, U, U, U, U, U, U, U, U, U, U, U, U, U]), [(.arr 3 (.int .i64) o0_3 false)]⟩)) v.1.1 v.1.2.2.2.2.2.2.2.2.2.2.1 v.1.2.2.2.2.2.2.2.2.2.2.2.1 v.1.2.2.2.2.2.2.2.2.2.2.2.2.2.1 v.2.1) (by kernel_rfl) (by unfold g'b0; rw [impl_natDiv_L2.succ])
theorem o'b0 (N : Nat) : PieceOK gd P (i'b7 N) (.block 2 (.loop (codeAt b'b7 [1, 1, 1, 1, 1, 1, 1, 0, 0, 0]))) (mkPiece 89128961 p'b0 (g'b0 N N)) :=
  piece_loop hE hP (hct62 N) (AllOK.of (F := i'b7 N) (l := []) (by kernel_rfl) .nil) (fun n {_} => g'b0 N n) (fun _ _ => by unfold g'b0; rw [impl_natDiv_L2.zero]) (fun n {_} v K => e'b0 N n v K) N
theorem oq'b0 (N : Nat) : PieceOK gd P (i'b7 N) (.block 2 (.loop (codeAt b'b7 [1, 1, 1, 1, 1, 1, 1, 0, 0, 0]))) (q'b0 N) := (o'b0 N)
theorem e'b1 (n : Nat) (v : p'b1.V) (K : KO α) : runRound env (ct62 N) (i'b7 N) 87330652160 (mkPiece 87330652160 p'b1 (g'b1 N n)).run (.block 6 (.loop (codeAt b'b7 [1, 1, 1, 1, 1, 1, 1, 1, 1, 0, 1, 0, 0, 1, 0, 0, 1, 1, 0, 0, 0]))) (p'b1.mk' v) K = g'b1 N (n + 1) v K := Eq.trans (b := impl_natDiv_L6r N (fun y0 y1 y2 y3 y4 y5 y6 y7 => impl_natDiv_L6 N n y0 y1 y2 y3 y4 y5 y6 y7 (fun o0_0 o0_1 o0_2 o0_3 o0_4 o0_5 o0_6 => K (.normal ⟨(us 10 [(.iv (.int .i64) o0_0), (.iv (.sl (.int .i64)) o0_1), (.own 0), (.iv (.int .i64) o0_2), (.own 1), (.iv (.int .i64) o0_3), U, (.iv (.int .i64) o0_4), U, U, U, U, U, U, U, U, U, U, U, U, U, U, U, U, U, U, U, U, U, U, U, U, U, U, U, U, U, U, U, U, U, U, U, U, U, U, U, U, U, U, U, U, U, U, U, U, U, U, U, U, U, U, U, U, U, U, U, U, U, U, U, U, U, U, U, U, U, U, U, U, U, U, U, U, U, U, U, U, U, U, U, U, U, U, U, U, U, U, U, U, U, U, U, U, U, U, U, U, U, U, U, U, U, U, U, U, U, U, U, U, U, U, U, U, U, U, U, U, U, U, U, U, U, U, U, U, U, U, U, U, U, U, U, U, U, U, U, U, U, U, U, U, U, U, U, U, U, U, U, U, U, U, U, U, U, U, U, U, U, U, U, U, U, U, U, U, U, U, U, U, U, U, U, U, U, U, U, U, U, U, U, U, U, U, U, U, U, U, U, U, U, U, U, U, U, U, U, U, U, U, U, U, U, U, U, U, U, U, U, U, U, U, U, U, U, U, U, U, U, U, U, U, U, U, U, U, U, U, U, U, U, U, U, U, U, U, U, U, U, U, U, U, U, U, U, U, U, U, U, U, U, U, U, U, U, U, U]), [(.arr 3 (.int .i64) o0_5 false), (.arr 3 (.int .i64) o0_6 false)]⟩))) (fun o0_0 o0_1 o0_2 o0_3 o0_4 o0_5 o0_6 => K (.normal ⟨(us 10 [(.iv (.int .i64) o0_0), (.iv (.sl (.int .i64)) o0_1), (.own 0), (.iv (.int .i64) o0_2), (.own 1), (.iv (.int .i64) o0_3), U, (.iv (.int .i64) o0_4), U, U, U, U, U, U, U, U, U, U, U, U, U, U, U, U, U, U, U, U, U, U, U, U, U, U, U, U, U, U, U, U, U, U, U, U, U, U, U, U, U, U, U, U, U, U, U, U, U, U, U, U, U, U, U, U, U, U, U, U, U, U, U, U, U, U, U, U, U, U, U, U, U, U, U, U, U, U, U, U, U, U, U, U, U, U, U, U, U, U, U, U, U, U, U, U, U, U, U, U, U, U, U, U, U, U, U, U, U, U, U, U, U, U, U, U, U, U, U, U, U, U, U, U, U, U, U, U, U, U, U, U, U, U, U, U, U, U, U, U, U, U, U, U, U, U, U, U, U, U, U, U, U, U, U, U, U, U, U, U, U, U, U, U, U, U, U, U, U, U, U, U, U, U, U, U, U, U, U, U, U, U, U, U, U, U, U, U, U, U, U, U, U, U, U, U, U, U, U, U, U, U, U, U, U, U, U, U, U, U, U, U, U, U, U, U, U, U, U, U, U, U, U, U, U, U, U, U, U, U, U, U, U, U, U, U, U, U, U, U, U, U, U, U, U, U, U, U, U, U, U, U, U, U, U, U, U, U, U]), [(.arr 3 (.int .i64) o0_5 false), (.arr 3 (.int .i64) o0_6 false)]⟩)) v.1.2.2.2.2.2.2.2.2.2.2.1 v.1.2.2.2.2.2.2.2.2.2.2.2.1 v.1.2.2.2.2.2.2.2.2.2.2.2.2.2.1 v.1.2.2.2.2.2.2.2.2.2.2.2.2.2.2.2.1 v.1.2.2.2.2.2.2.2.2.2.2.2.2.2.2.2.2.2.1 v.1.2.2.2.2.2.2.2.2.2.2.2.2.2.2.2.2.2.2.1 v.2.1 v.2.2.1) (by kernel_rfl) (by unfold g'b1; rw [impl_natDiv_L6.succ])
theorem o'b1 (N : Nat) : PieceOK gd P (i'b7 N) (.block 6 (.loop (codeAt b'b7 [1, 1, 1, 1, 1, 1, 1, 1, 1, 0, 1, 0, 0, 1, 0, 0, 1, 1, 0, 0, 0]))) (mkPiece 87330652160 p'b1 (g'b1 N N)) :=
  piece_loop hE hP (hct62 N) (AllOK.of (F := i'b7 N) (l := []) (by kernel_rfl) .nil) (fun n {_} => g'b1 N n) (fun _ _ => by unfold g'b1; rw [impl_natDiv_L6.zero]) (fun n {_} v K => e'b1 N n v K) N
theorem oq'b1 (N : Nat) : PieceOK gd P (i'b7 N) (.block 6 (.loop (codeAt b'b7 [1, 1, 1, 1, 1, 1, 1, 1, 1, 0, 1, 0, 0, 1, 0, 0, 1, 1, 0, 0, 0]))) (q'b1 N) := (o'b1 N)
theorem e'b2 (v : p'b2.V) (K : KO α) : runSeq env (ct62 N) (i'b7 N) 48163470935791501743827238801343825756727864772533903598489365627125380397858180969470389615331624604401664 (.seq (codeAt b'b7 [1, 1, 1, 1, 1, 1, 1, 1, 1, 0, 1, 0, 0, 1, 0, 0, 1, 1, 1, 1, 0, 1, 0, 0, 1, 1, 0, 0, 1, 1, 1, 0, 0]) (codeAt b'b7 [1, 1, 1, 1, 1, 1, 1, 1, 1, 0, 1, 0, 0, 1, 0, 0, 1, 1, 1, 1, 0, 1, 0, 0, 1, 1, 0, 0, 1, 1, 1, 0, 1])) (p'b2.mk' v) K = g'b2 N v K := Eq.trans (b := z'b2 N @impl_natDiv_J34.b v K) (by kernel_rfl) (by unfold g'b2; rw [impl_natDiv_J34.eq])
theorem o'b2 (N : Nat) : PieceOK gd P (i'b7 N) (.seq (codeAt b'b7 [1, 1, 1, 1, 1, 1, 1, 1, 1, 0, 1, 0, 0, 1, 0, 0, 1, 1, 1, 1, 0, 1, 0, 0, 1, 1, 0, 0, 1, 1, 1, 0, 0]) (codeAt b'b7 [1, 1, 1, 1, 1, 1, 1, 1, 1, 0, 1, 0, 0, 1, 0, 0, 1, 1, 1, 1, 0, 1, 0, 0, 1, 1, 0, 0, 1, 1, 1, 0, 1])) (mkPiece 48163470935791501743827238801343825756727864772533903598489365627125380397858180969470389615331624604401664 p'b2 (g'b2 N)) :=
  piece_seq hE hP (hct62 N) (AllOK.of (F := i'b7 N) (l := []) (by kernel_rfl) .nil) (AllOK.of (F := i'b7 N) (l := []) (by kernel_rfl) .nil) (e'b2 N)
theorem oq'b2 (N : Nat) : PieceOK gd P (i'b7 N) (.seq (codeAt b'b7 [1, 1, 1, 1, 1, 1, 1, 1, 1, 0, 1, 0, 0, 1, 0, 0, 1, 1, 1, 1, 0, 1, 0, 0, 1, 1, 0, 0, 1, 1, 1, 0, 0]) (codeAt b'b7 [1, 1, 1, 1, 1, 1, 1, 1, 1, 0, 1, 0, 0, 1, 0, 0, 1, 1, 1, 1, 0, 1, 0, 0, 1, 1, 0, 0, 1, 1, 1, 0, 1])) (q'b2 N) := (o'b2 N)
theorem e'b3 (n : Nat) (v : p'b3.V) (K : KO α) : runRound env (ct62 N) (i'b7 N) 48163470935791501743827238801343825756727864772533903598489365627125380397858180969470389615312932906729472 (mkPiece 48163470935791501743827238801343825756727864772533903598489365627125380397858180969470389615312932906729472 p'b3 (g'b3 N n)).run (.block 8 (.loop (codeAt b'b7 [1, 1, 1, 1, 1, 1, 1, 1, 1, 0, 1, 0, 0, 1, 0, 0, 1, 1, 1, 1, 0, 1, 0, 0]))) (p'b3.mk' v) K = g'b3 N (n + 1) v K := Eq.trans (b := impl_natDiv_L8r N (fun y0 y1 y2 y3 y4 y5 y6 y7 y8 y9 y10 => impl_natDiv_L8 N n y0 y1 y2 y3 y4 y5 y6 y7 y8 y9 y10 (fun o0_0 o0_1 o0_2 o0_3 o0_4 o0_5 o0_6 o0_7 => K (.normal ⟨(us 10 [(.iv (.int .i64) o0_0), (.iv (.sl (.int .i64)) o0_1), (.own 0), (.iv (.int .i64) o0_2), (.own 1), (.iv (.int .i64) o0_3), U, (.iv (.int .i64) o0_4), U, (.iv (.int .i64) o0_5), U, U, U, U, U, U, U, U, U, U, U, U, U, U, U, U, U, U, U, U, U, U, U, U, U, U, U, U, U, U, U, U, U, U, U, U, U, U, U, U, U, U, U, U, U, U, U, U, U, U, U, U, U, U, U, U, U, U, U, U, U, U, U, U, U, U, U, U, U, U, U, U, U, U, U, U, U, U, U, U, U, U, U, U, U, U, U, U, U, U, U, U, U, U, U, U, U, U, U, U, U, U, U, U, U, U, U, U, U, U, U, U, U, U, U, U, U, U, U, U, U, U, U, U, U, U, U, U, U, U, U, U, U, U, U, U, U, U, U, U, U, U, U, U, U, U, U, U, U, U, U, U, U, U, U, U, U, U, U, U, U, U, U, U, U, U, U, U, U, U, U, U, U, U, U, U, U, U, U, U, U, U, U, U, U, U, U, U, U, U, U, U, U, U, U, U, U, U, U, U, U, U, U, U, U, U, U, U, U, U, U, U, U, U, U, U, U, U, U, U, U, U, U, U, U, U, U, U, U, U, U, U, U, U, U, U, U, U, U, U, U, U, U, U, U, U, U, U, U, U, U, U, U, U, U, U, U]), [(.arr 3 (.int .i64) o0_6 false), (.arr 3 (.int .i64) o0_7 false)]⟩))) (fun o0_0 o0_1 o0_2 o0_3 o0_4 o0_5 o0_6 o0_7 => K (.normal ⟨(us 10 [(.iv (.int .i64) o0_0), (.iv (.sl (.int .i64)) o0_1), (.own 0), (.iv (.int .i64) o0_2), (.own 1), (.iv (.int .i64) o0_3), U, (.iv (.int .i64) o0_4), U, (.iv (.int .i64) o0_5), U, U, U, U, U, U, U, U, U, U, U, U, U, U, U, U, U, U, U, U, U, U, U, U, U, U, U, U, U, U, U, U, U, U, U, U, U, U, U, U, U, U, U, U, U, U, U, U, U, U, U, U, U, U, U, U, U, U, U, U, U, U, U, U, U, U, U, U, U, U, U, U, U, U, U, U, U, U, U, U, U, U, U, U, U, U, U, U, U, U, U, U, U, U, U, U, U, U, U, U, U, U, U, U, U, U, U, U, U, U, U, U, U, U, U, U, U, U, U, U, U, U, U, U, U, U, U, U, U, U, U, U, U, U, U, U, U, U, U, U, U, U, U, U, U, U, U, U, U, U, U, U, U, U, U, U, U, U, U, U, U, U, U, U, U, U, U, U, U, U, U, U, U, U, U, U, U, U, U, U, U, U, U, U, U, U, U, U, U, U, U, U, U, U, U, U, U, U, U, U, U, U, U, U, U, U, U, U, U, U, U, U, U, U, U, U, U, U, U, U, U, U, U, U, U, U, U, U, U, U, U, U, U, U, U, U, U, U, U, U, U, U, U, U, U, U, U, U, U, U, U, U, U, U, U, U, U]), [(.arr 3 (.int .i64) o0_6 false), (.arr 3 (.int .i64) o0_7 false)]⟩)) v.1.2.2.2.2.2.2.2.2.2.2.1 v.1.2.2.2.2.2.2.2.2.2.2.2.1 v.1.2.2.2.2.2.2.2.2.2.2.2.2.2.1 v.1.2.2.2.2.2.2.2.2.2.2.2.2.2.2.2.1 v.1.2.2.2.2.2.2.2.2.2.2.2.2.2.2.2.2.2.1 v.1.2.2.2.2.2.2.2.2.2.2.2.2.2.2.2.2.2.2.2.1 v.1.2.2.2.2.2.2.2.2.2.2.2.2.2.2.2.2.2.2.2.2.2.2.2.2.2.2.2.2.2.2.2.2.2.2.2.2.2.2.2.2.2.2.2.2.2.2.2.2.2.2.2.2.2.2.2.2.2.2.2.2.2.2.2.2.2.2.2.2.2.2.2.2.2.2.2.2.2.2.2.2.2.2.2.2.2.2.2.2.2.2.2.2.2.2.2.2.2.2.2.2.2.2.2.2.2.2.2.2.2.2.2.2.2.2.2.2.2.2.2.2.2.2.2.2.2.2.2.2.2.2.2.2.2.2.2.2.2.2.2.2.2.2.2.2.2.2.2.2.2.2.2.2.2.2.2.2.2.2.2.2.2.2.2.2.2.2.2.2.2.2.2.2.2.2.2.1 v.1.2.2.2.2.2.2.2.2.2.2.2.2.2.2.2.2.2.2.2.2.2.2.2.2.2.2.2.2.2.2.2.2.2.2.2.2.2.2.2.2.2.2.2.2.2.2.2.2.2.2.2.2.2.2.2.2.2.2.2.2.2.2.2.2.2.2.2.2.2.2.2.2.2.2.2.2.2.2.2.2.2.2.2.2.2.2.2.2.2.2.2.2.2.2.2.2.2.2.2.2.2.2.2.2.2.2.2.2.2.2.2.2.2.2.2.2.2.2.2.2.2.2.2.2.2.2.2.2.2.2.2.2.2.2.2.2.2.2.2.2.2.2.2.2.2.2.2.2.2.2.2.2.2.2.2.2.2.2.2.2.2.2.2.2.2.2.2.2.2.2.2.2.2.2.2.2.1 v.1.2.2.2.2.2.2.2.2.2.2.2.2.2.2.2.2.2.2.2.2.2.2.2.2.2.2.2.2.2.2.2.2.2.2.2.2.2.2.2.2.2.2.2.2.2.2.2.2.2.2.2.2.2.2.2.2.2.2.2.2.2.2.2.2.2.2.2.2.2.2.2.2.2.2.2.2.2.2.2.2.2.2.2.2.2.2.2.2.2.2.2.2.2.2.2.2.2.2.2.2.2.2.2.2.2.2.2.2.2.2.2.2.2.2.2.2.2.2.2.2.2.2.2.2.2.2.2.2.2.2.2.2.2.2.2.2.2.2.2.2.2.2.2.2.2.2.2.2.2.2.2.2.2.2.2.2.2.2.2.2.2.2.2.2.2.2.2.2.2.2.2.2.2.2.2.2.2.1 v.2.1 v.2.2.1) (by kernel_rfl) (by unfold g'b3; rw [impl_natDiv_L8.succ])
theorem o'b3 (N : Nat) : PieceOK gd P (i'b7 N) (.block 8 (.loop (codeAt b'b7 [1, 1, 1, 1, 1, 1, 1, 1, 1, 0, 1, 0, 0, 1, 0, 0, 1, 1, 1, 1, 0, 1, 0, 0]))) (mkPiece 48163470935791501743827238801343825756727864772533903598489365627125380397858180969470389615312932906729472 p'b3 (g'b3 N N)) :=
  piece_loop hE hP (hct62 N) (AllOK.of (F := i'b7 N) (l := [((.seq (codeAt b'b7 [1, 1, 1, 1, 1, 1, 1, 1, 1, 0, 1, 0, 0, 1, 0, 0, 1, 1, 1, 1, 0, 1, 0, 0, 1, 1, 0, 0, 1, 1, 1, 0, 0]) (codeAt b'b7 [1, 1, 1, 1, 1, 1, 1, 1, 1, 0, 1, 0, 0, 1, 0, 0, 1, 1, 1, 1, 0, 1, 0, 0, 1, 1, 0, 0, 1, 1, 1, 0, 1])), q'b2 N)]) (by kernel_rfl) (.cons (oq'b2 N) .nil)) (fun n {_} => g'b3 N n) (fun _ _ => by unfold g'b3; rw [impl_natDiv_L8.zero]) (fun n {_} v K => e'b3 N n v K) N
theorem oq'b3 (N : Nat) : PieceOK gd P (i'b7 N) (.block 8 (.loop (codeAt b'b7 [1, 1, 1, 1, 1, 1, 1, 1, 1, 0, 1, 0, 0, 1, 0, 0, 1, 1, 1, 1, 0, 1, 0, 0]))) (q'b3 N) := (o'b3 N)
theorem e'b4 (n : Nat) (v : p'b4.V) (K : KO α) : runRound env (ct62 N) (i'b7 N) 62519759709010922297490636659294598026962815280880350273172660972721869006362035772825649418195086855274549058484591561130912364074273603584 (mkPiece 62519759709010922297490636659294598026962815280880350273172660972721869006362035772825649418195086855274549058484591561130912364074273603584 p'b4 (g'b4 N n)).run (.block 10 (.loop (codeAt b'b7 [1, 1, 1, 1, 1, 1, 1, 1, 1, 0, 1, 0, 0, 1, 0, 0, 1, 1, 1, 1, 1, 1, 0, 1, 0, 1, 1, 0, 1, 0, 0]))) (p'b4.mk' v) K = g'b4 N (n + 1) v K := Eq.trans (b := impl_natDiv_L10r N (fun y0 y1 y2 y3 y4 y5 y6 y7 y8 y9 y10 => impl_natDiv_L10 N n y0 y1 y2 y3 y4 y5 y6 y7 y8 y9 y10 (fun o0_0 o0_1 o0_2 o0_3 o0_4 o0_5 o0_6 o0_7 => K (.normal ⟨(us 10 [(.iv (.int .i64) o0_0), (.iv (.sl (.int .i64)) o0_1), (.own 0), (.iv (.int .i64) o0_2), (.own 1), (.iv (.int .i64) o0_3), U, (.iv (.int .i64) o0_4), U, U, U, U, U, (.iv (.int .i64) o0_5), U, U, U, U, U, U, U, U, U, U, U, U, U, U, U, U, U, U, U, U, U, U, U, U, U, U, U, U, U, U, U, U, U, U, U, U, U, U, U, U, U, U, U, U, U, U, U, U, U, U, U, U, U, U, U, U, U, U, U, U, U, U, U, U, U, U, U, U, U, U, U, U, U, U, U, U, U, U, U, U, U, U, U, U, U, U, U, U, U, U, U, U, U, U, U, U, U, U, U, U, U, U, U, U, U, U, U, U, U, U, U, U, U, U, U, U, U, U, U, U, U, U, U, U, U, U, U, U, U, U, U, U, U, U, U, U, U, U, U, U, U, U, U, U, U, U, U, U, U, U, U, U, U, U, U, U, U, U, U, U, U, U, U, U, U, U, U, U, U, U, U, U, U, U, U, U, U, U, U, U, U, U, U, U, U, U, U, U, U, U, U, U, U, U, U, U, U, U, U, U, U, U, U, U, U, U, U, U, U, U, U, U, U, U, U, U, U, U, U, U, U, U, U, U, U, U, U, U, U, U, U, U, U, U, U, U, U, U, U, U, U, U, U, U, U, U, U, U, U, U, U, U, U]), [(.arr 3 (.int .i64) o0_6 false), (.arr 3 (.int .i64) o0_7 false)]⟩))) (fun o0_0 o0_1 o0_2 o0_3 o0_4 o0_5 o0_6 o0_7 => K (.normal ⟨(us 10 [(.iv (.int .i64) o0_0), (.iv (.sl (.int .i64)) o0_1), (.own 0), (.iv (.int .i64) o0_2), (.own 1), (.iv (.int .i64) o0_3), U, (.iv (.int .i64) o0_4), U, U, U, U, U, (.iv (.int .i64) o0_5), U, U, U, U, U, U, U, U, U, U, U, U, U, U, U, U, U, U, U, U, U, U, U, U, U, U, U, U, U, U, U, U, U, U, U, U, U, U, U, U, U, U, U, U, U, U, U, U, U, U, U, U, U, U, U, U, U, U, U, U, U, U, U, U, U, U, U, U, U, U, U, U, U, U, U, U, U, U, U, U, U, U, U, U, U, U, U, U, U, U, U, U, U, U, U, U, U, U, U, U, U, U, U, U, U, U, U, U, U, U, U, U, U, U, U, U, U, U, U, U, U, U, U, U, U, U, U, U, U, U, U, U, U, U, U, U, U, U, U, U, U, U, U, U, U, U, U, U, U, U, U, U, U, U, U, U, U, U, U, U, U, U, U, U, U, U, U, U, U, U, U, U, U, U, U, U, U, U, U, U, U, U, U, U, U, U, U, U, U, U, U, U, U, U, U, U, U, U, U, U, U, U, U, U, U, U, U, U, U, U, U, U, U, U, U, U, U, U, U, U, U, U, U, U, U, U, U, U, U, U, U, U, U, U, U, U, U, U, U, U, U, U, U, U, U, U, U, U, U, U, U, U, U]), [(.arr 3 (.int .i64) o0_6 false), (.arr 3 (.int .i64) o0_7 false)]⟩)) v.1.2.2.2.2.2.2.2.2.2.2.1 v.1.2.2.2.2.2.2.2.2.2.2.2.1 v.1.2.2.2.2.2.2.2.2.2.2.2.2.2.1 v.1.2.2.2.2.2.2.2.2.2.2.2.2.2.2.2.1 v.1.2.2.2.2.2.2.2.2.2.2.2.2.2.2.2.2.2.1 v.1.2.2.2.2.2.2.2.2.2.2.2.2.2.2.2.2.2.2.2.2.2.2.2.1 v.1.2.2.2.2.2.2.2.2.2.2.2.2.2.2.2.2.2.2.2.2.2.2.2.2.2.2.2.2.2.2.2.2.2.2.2.2.2.2.2.2.2.2.2.2.2.2.2.2.2.2.2.2.2.2.2.2.2.2.2.2.2.2.2.2.2.2.2.2.2.2.2.2.2.2.2.2.2.2.2.2.2.2.2.2.2.2.2.2.2.2.2.2.2.2.2.2.2.2.2.2.2.2.2.2.2.2.2.2.2.2.2.2.2.2.2.2.2.2.2.2.2.2.2.2.2.2.2.2.2.2.2.2.2.2.2.2.2.2.2.2.2.2.2.2.2.2.2.2.2.2.2.2.2.2.2.2.2.2.2.2.2.2.2.2.2.2.2.2.2.2.2.2.2.2.2.2.2.2.2.2.2.2.2.2.2.2.2.2.2.2.2.2.2.2.2.2.2.2.2.2.2.2.2.2.2.2.2.2.2.2.2.2.2.2.2.2.2.2.2.2.2.2.2.2.2.2.2.2.2.2.1 v.1.2.2.2.2.2.2.2.2.2.2.2.2.2.2.2.2.2.2.2.2.2.2.2.2.2.2.2.2.2.2.2.2.2.2.2.2.2.2.2.2.2.2.2.2.2.2.2.2.2.2.2.2.2.2.2.2.2.2.2.2.2.2.2.2.2.2.2.2.2.2.2.2.2.2.2.2.2.2.2.2.2.2.2.2.2.2.2.2.2.2.2.2.2.2.2.2.2.2.2.2.2.2.2.2.2.2.2.2.2.2.2.2.2.2.2.2.2.2.2.2.2.2.2.2.2.2.2.2.2.2.2.2.2.2.2.2.2.2.2.2.2.2.2.2.2.2.2.2.2.2.2.2.2.2.2.2.2.2.2.2.2.2.2.2.2.2.2.2.2.2.2.2.2.2.2.2.2.2.2.2.2.2.2.2.2.2.2.2.2.2.2.2.2.2.2.2.2.2.2.2.2.2.2.2.2.2.2.2.2.2.2.2.2.2.2.2.2.2.2.2.2.2.2.2.2.2.2.2.2.2.2.1 v.1.2.2.2.2.2.2.2.2.2.2.2.2.2.2.2.2.2.2.2.2.2.2.2.2.2.2.2.2.2.2.2.2.2.2.2.2.2.2.2.2.2.2.2.2.2.2.2.2.2.2.2.2.2.2.2.2.2.2.2.2.2.2.2.2.2.2.2.2.2.2.2.2.2.2.2.2.2.2.2.2.2.2.2.2.2.2.2.2.2.2.2.2.2.2.2.2.2.2.2.2.2.2.2.2.2.2.2.2.2.2.2.2.2.2.2.2.2.2.2.2.2.2.2.2.2.2.2.2.2.2.2.2.2.2.2.2.2.2.2.2.2.2.2.2.2.2.2.2.2.2.2.2.2.2.2.2.2.2.2.2.2.2.2.2.2.2.2.2.2.2.2.2.2.2.2.2.2.2.2.2.2.2.2.2.2.2.2.2.2.2.2.2.2.2.2.2.2.2.2.2.2.2.2.2.2.2.2.2.2.2.2.2.2.2.2.2.2.2.2.2.2.2.2.2.2.2.2.2.2.2.2.2.1 v.2.1 v.2.2.1) (by kernel_rfl) (by unfold g'b4; rw [impl_natDiv_L10.succ])
theorem o'b4 (N : Nat) : PieceOK gd P (i'b7 N) (.block 10 (.loop (codeAt b'b7 [1, 1, 1, 1, 1, 1, 1, 1, 1, 0, 1, 0, 0, 1, 0, 0, 1, 1, 1, 1, 1, 1, 0, 1, 0, 1, 1, 0, 1, 0, 0]))) (mkPiece 62519759709010922297490636659294598026962815280880350273172660972721869006362035772825649418195086855274549058484591561130912364074273603584 p'b4 (g'b4 N N)) :=
  piece_loop hE hP (hct62 N) (AllOK.of (F := i'b7 N) (l := []) (by kernel_rfl) .nil) (fun n {_} => g'b4 N n) (fun _ _ => by unfold g'b4; rw [impl_natDiv_L10.zero]) (fun n {_} v K => e'b4 N n v K) N
theorem oq'b4 (N : Nat) : PieceOK gd P (i'b7 N) (.block 10 (.loop (codeAt b'b7 [1, 1, 1, 1, 1, 1, 1, 1, 1, 0, 1, 0, 0, 1, 0, 0, 1, 1, 1, 1, 1, 1, 0, 1, 0, 1, 1, 0, 1, 0, 0]))) (q'b4 N) := (o'b4 N)
theorem e'b5 (v : p'b5.V) (K : KO α) : runSeq env (ct62 N) (i'b7 N) 18611175424 (.seq (codeAt b'b7 [1, 1, 1, 1, 1, 1, 1, 1, 1, 0, 1, 0, 0, 1, 0, 0, 1, 1, 1, 1, 1, 1, 0, 0]) (codeAt b'b7 [1, 1, 1, 1, 1, 1, 1, 1, 1, 0, 1, 0, 0, 1, 0, 0, 1, 1, 1, 1, 1, 1, 0, 1])) (p'b5.mk' v) K = g'b5 N v K := Eq.trans (b := z'b5 N @impl_natDiv_J40.b v K) (by kernel_rfl) (by unfold g'b5; rw [impl_natDiv_J40.eq])
theorem o'b5 (N : Nat) : PieceOK gd P (i'b7 N) (.seq (codeAt b'b7 [1, 1, 1, 1, 1, 1, 1, 1, 1, 0, 1, 0, 0, 1, 0, 0, 1, 1, 1, 1, 1, 1, 0, 0]) (codeAt b'b7 [1, 1, 1, 1, 1, 1, 1, 1, 1, 0, 1, 0, 0, 1, 0, 0, 1, 1, 1, 1, 1, 1, 0, 1])) (mkPiece 18611175424 p'b5 (g'b5 N)) :=
  piece_seq hE hP (hct62 N) (AllOK.of (F := i'b7 N) (l := []) (by kernel_rfl) .nil) (AllOK.of (F := i'b7 N) (l := [((.block 10 (.loop (codeAt b'b7 [1, 1, 1, 1, 1, 1, 1, 1, 1, 0, 1, 0, 0, 1, 0, 0, 1, 1, 1, 1, 1, 1, 0, 1, 0, 1, 1, 0, 1, 0, 0]))), q'b4 N)]) (by kernel_rfl) (.cons (oq'b4 N) .nil)) (e'b5 N)
theorem oq'b5 (N : Nat) : PieceOK gd P (i'b7 N) (.seq (codeAt b'b7 [1, 1, 1, 1, 1, 1, 1, 1, 1, 0, 1, 0, 0, 1, 0, 0, 1, 1, 1, 1, 1, 1, 0, 0]) (codeAt b'b7 [1, 1, 1, 1, 1, 1, 1, 1, 1, 0, 1, 0, 0, 1, 0, 0, 1, 1, 1, 1, 1, 1, 0, 1])) (q'b5 N) := (o'b5 N)
theorem e'b6 (n : Nat) (v : p'b6.V) (K : KO α) : runRound env (ct62 N) (i'b7 N) 1431306240 (mkPiece 1431306240 p'b6 (g'b6 N n)).run (.block 4 (.loop (codeAt b'b7 [1, 1, 1, 1, 1, 1, 1, 1, 1, 0, 1, 0, 0]))) (p'b6.mk' v) K = g'b6 N (n + 1) v K := Eq.trans (b := impl_natDiv_L4r N (fun y0 y1 y2 y3 y4 y5 => impl_natDiv_L4 N n y0 y1 y2 y3 y4 y5 (fun o0_0 o0_1 o0_2 => K (.normal ⟨(us 10 [(.iv (.int .i64) o0_0), U, (.own 0), U, (.own 1), U, U, U, U, U, U, U, U, U, U, U, U, U, U, U, U, U, U, U, U, U, U, U, U, U, U, U, U, U, U, U, U, U, U, U, U, U, U, U, U, U, U, U, U, U, U, U, U, U, U, U, U, U, U, U, U, U, U, U, U, U, U, U, U, U, U, U, U, U, U, U, U, U, U, U, U, U, U, U, U, U, U, U, U, U, U, U, U, U, U, U, U, U, U, U, U, U, U, U, U, U, U, U, U, U, U, U, U, U, U, U, U, U, U, U, U, U, U, U, U, U, U, U, U, U, U, U, U, U, U, U, U, U, U, U, U, U, U, U, U, U, U, U, U, U, U, U, U, U, U, U, U, U, U, U, U, U, U, U, U, U, U, U, U, U, U, U, U, U, U, U, U, U, U, U, U, U, U, U, U, U, U, U, U, U, U, U, U, U, U, U, U, U, U, U, U, U, U, U, U, U, U, U, U, U, U, U, U, U, U, U, U, U, U, U, U, U, U, U, U, U, U, U, U, U, U, U, U, U, U, U, U, U, U, U, U, U, U, U, U, U, U, U, U, U, U, U, U, U, U, U, U, U, U, U, U, U, U, U, U, U, U]), [(.arr 3 (.int .i64) o0_1 false), (.arr 3 (.int .i64) o0_2 false)]⟩))) (fun o0_0 o0_1 o0_2 => K (.normal ⟨(us 10 [(.iv (.int .i64) o0_0), U, (.own 0), U, (.own 1), U, U, U, U, U, U, U, U, U, U, U, U, U, U, U, U, U, U, U, U, U, U, U, U, U, U, U, U, U, U, U, U, U, U, U, U, U, U, U, U, U, U, U, U, U, U, U, U, U, U, U, U, U, U, U, U, U, U, U, U, U, U, U, U, U, U, U, U, U, U, U, U, U, U, U, U, U, U, U, U, U, U, U, U, U, U, U, U, U, U, U, U, U, U, U, U, U, U, U, U, U, U, U, U, U, U, U, U, U, U, U, U, U, U, U, U, U, U, U, U, U, U, U, U, U, U, U, U, U, U, U, U, U, U, U, U, U, U, U, U, U, U, U, U, U, U, U, U, U, U, U, U, U, U, U, U, U, U, U, U, U, U, U, U, U, U, U, U, U, U, U, U, U, U, U, U, U, U, U, U, U, U, U, U, U, U, U, U, U, U, U, U, U, U, U, U, U, U, U, U, U, U, U, U, U, U, U, U, U, U, U, U, U, U, U, U, U, U, U, U, U, U, U, U, U, U, U, U, U, U, U, U, U, U, U, U, U, U, U, U, U, U, U, U, U, U, U, U, U, U, U, U, U, U, U, U, U, U, U, U, U, U]), [(.arr 3 (.int .i64) o0_1 false), (.arr 3 (.int .i64) o0_2 false)]⟩)) v.1.2.2.2.2.2.2.2.2.2.2.1 v.1.2.2.2.2.2.2.2.2.2.2.2.1 v.1.2.2.2.2.2.2.2.2.2.2.2.2.2.1 v.1.2.2.2.2.2.2.2.2.2.2.2.2.2.2.2.1 v.2.1 v.2.2.1) (by kernel_rfl) (by unfold g'b6; rw [impl_natDiv_L4.succ])
theorem o'b6 (N : Nat) : PieceOK gd P (i'b7 N) (.block 4 (.loop (codeAt b'b7 [1, 1, 1, 1, 1, 1, 1, 1, 1, 0, 1, 0, 0]))) (mkPiece 1431306240 p'b6 (g'b6 N N)) :=
  piece_loop hE hP (hct62 N) (AllOK.of (F := i'b7 N) (l := [((.block 6 (.loop (codeAt b'b7 [1, 1, 1, 1, 1, 1, 1, 1, 1, 0, 1, 0, 0, 1, 0, 0, 1, 1, 0, 0, 0]))), q'b1 N), ((.block 8 (.loop (codeAt b'b7 [1, 1, 1, 1, 1, 1, 1, 1, 1, 0, 1, 0, 0, 1, 0, 0, 1, 1, 1, 1, 0, 1, 0, 0]))), q'b3 N), ((.seq (codeAt b'b7 [1, 1, 1, 1, 1, 1, 1, 1, 1, 0, 1, 0, 0, 1, 0, 0, 1, 1, 1, 1, 1, 1, 0, 0]) (codeAt b'b7 [1, 1, 1, 1, 1, 1, 1, 1, 1, 0, 1, 0, 0, 1, 0, 0, 1, 1, 1, 1, 1, 1, 0, 1])), q'b5 N)]) (by kernel_rfl) (.cons (oq'b1 N) (.cons (oq'b3 N) (.cons (oq'b5 N) .nil)))) (fun n {_} => g'b6 N n) (fun _ _ => by unfold g'b6; rw [impl_natDiv_L4.zero]) (fun n {_} v K => e'b6 N n v K) N
theorem oq'b6 (N : Nat) : PieceOK gd P (i'b7 N) (.block 4 (.loop (codeAt b'b7 [1, 1, 1, 1, 1, 1, 1, 1, 1, 0, 1, 0, 0]))) (q'b6 N) := (o'b6 N)
noncomputable def p'b7 : Pt := ⟨[(.i (.sl (.int .i64))), (.i (.sl (.int .i64)))], []⟩
noncomputable def z'b7 (F : type_of% @impl_natDiv) (v : p'b7.V) (K : KF α) : Option α := F N v.1.1 v.1.2.1 (fun o0_0 o0_1 => K (.tuple [(.iv (.sl (.int .i64)) o0_0), (.iv (.sl (.int .i64)) o0_1)]) [])
noncomputable def g'b7 (v : p'b7.V) (K : KF α) : Option α := z'b7 N @impl_natDiv v K
theorem e'b7 (v : p'b7.V) (K : KF α) : runFn env (ct62 N) (i'b7 N) Tryz.f64 (SP.mkL p'b7.slots v.1) (BP.mkL p'b7.store v.2) K = g'b7 N v K := Eq.trans (b := z'b7 N @impl_natDiv.b v K) (by kernel_rfl) (by unfold g'b7; rw [impl_natDiv.eq])
theorem o'b7 (N : Nat) : CalleeOK gd P 64 (mkCallee false p'b7 (g'b7 N)) :=
  callee_ok fun v K h => fn_snd hE hP (hct62 N) Tryz.func64 (by kernel_rfl) (body := b'b7) (by kernel_rfl) (by kernel_rfl) (AllOK.of (F := i'b7 N) (l := [((.block 0 (.loop (codeAt b'b7 [1, 1, 0, 1, 0, 1, 1, 0, 1, 0, 0]))), q'bZ N), ((.block 2 (.loop (codeAt b'b7 [1, 1, 1, 1, 1, 1, 1, 0, 0, 0]))), q'b0 N), ((.block 4 (.loop (codeAt b'b7 [1, 1, 1, 1, 1, 1, 1, 1, 1, 0, 1, 0, 0]))), q'b6 N)]) (by kernel_rfl) (.cons (oq'bZ N) (.cons (oq'b0 N) (.cons (oq'b6 N) .nil)))) (loans := BP.mkL p'b7.store v.2) rfl ((e'b7 N v K).trans h)
noncomputable def ct63 (N : Nat) : CT := (64, (mkCallee false p'b7 (g'b7 N))) :: ct62 N
theorem hct63 (N : Nat) : CTOK gd P (ct63 N) := .cons (o'b7 N) (hct62 N)

noncomputable def p'b8 : Pt := ⟨[(.i (.sl (.int .i64))), (.i (.sl (.int .i64))), .u, .u, .u, .u, .u, .u, .u, .u, .u, .u, .u, .u, .u, .u, .u, .u, .u], []⟩
noncomputable def g'b8 (n : Nat) (v : p'b8.V) (K : KO α) : Option α := impl_natGcd_L0 N n v.1.1 v.1.2.1 (fun o0_0 => K (.normal ⟨[(.iv (.sl (.int .i64)) o0_0), U, U, U, U, U, U, U, U, U, U, U, U, U, U, U, U, U, U], []⟩))
noncomputable def q'b8 (N : Nat) : Piece := (mkPiece 5 p'b8 (g'b8 N N))
noncomputable def i'b9 (N : Nat) : Fi := { loans := 0, owns := true, results := [.tmp 4], rtys := [23], blks := [(0, q'b8 N)], regs := [], masks := [(0, 1)] }
noncomputable def b'b9 : Code := match Tryz.f63.body with | some c => c | none => .skip
theorem e'b8 (n : Nat) (v : p'b8.V) (K : KO α) : runRound env (ct63 N) (i'b9 N) 5 (mkPiece 5 p'b8 (g'b8 N n)).run (.block 0 (.loop (codeAt b'b9 [1, 0, 0, 0]))) (p'b8.mk' v) K = g'b8 N (n + 1) v K := Eq.trans (b := impl_natGcd_L0r N (fun y0 y1 => impl_natGcd_L0 N n y0 y1 (fun o0_0 => K (.normal ⟨[(.iv (.sl (.int .i64)) o0_0), U, U, U, U, U, U, U, U, U, U, U, U, U, U, U, U, U, U], []⟩))) (fun o0_0 => K (.normal ⟨[(.iv (.sl (.int .i64)) o0_0), U, U, U, U, U, U, U, U, U, U, U, U, U, U, U, U, U, U], []⟩)) v.1.1 v.1.2.1) (by kernel_rfl) (by unfold g'b8; rw [impl_natGcd_L0.succ])
theorem o'b8 (N : Nat) : PieceOK gd P (i'b9 N) (.block 0 (.loop (codeAt b'b9 [1, 0, 0, 0]))) (mkPiece 5 p'b8 (g'b8 N N)) :=
  piece_loop hE hP (hct63 N) (AllOK.of (F := i'b9 N) (l := []) (by kernel_rfl) .nil) (fun n {_} => g'b8 N n) (fun _ _ => by unfold g'b8; rw [impl_natGcd_L0.zero]) (fun n {_} v K => e'b8 N n v K) N
theorem oq'b8 (N : Nat) : PieceOK gd P (i'b9 N) (.block 0 (.loop (codeAt b'b9 [1, 0, 0, 0]))) (q'b8 N) := (o'b8 N)
noncomputable def p'b9 : Pt := ⟨[(.i (.sl (.int .i64))), (.i (.sl (.int .i64)))], []⟩
noncomputable def z'b9 (F : type_of% @impl_natGcd) (v : p'b9.V) (K : KF α) : Option α := F N v.1.1 v.1.2.1 (fun o0_0 => K (.iv (.sl (.int .i64)) o0_0) [])
noncomputable def g'b9 (v : p'b9.V) (K : KF α) : Option α := z'b9 N @impl_natGcd v K
theorem e'b9 (v : p'b9.V) (K : KF α) : runFn env (ct63 N) (i'b9 N) Tryz.f63 (SP.mkL p'b9.slots v.1) (BP.mkL p'b9.store v.2) K = g'b9 N v K := Eq.trans (b := z'b9 N @impl_natGcd.b v K) (by kernel_rfl) (by unfold g'b9; rw [impl_natGcd.eq])
theorem o'b9 (N : Nat) : CalleeOK gd P 63 (mkCallee false p'b9 (g'b9 N)) :=
  callee_ok fun v K h => fn_snd hE hP (hct63 N) Tryz.func63 (by kernel_rfl) (body := b'b9) (by kernel_rfl) (by kernel_rfl) (AllOK.of (F := i'b9 N) (l := [((.block 0 (.loop (codeAt b'b9 [1, 0, 0, 0]))), q'b8 N)]) (by kernel_rfl) (.cons (oq'b8 N) .nil)) (loans := BP.mkL p'b9.store v.2) rfl ((e'b9 N v K).trans h)
noncomputable def ct64 (N : Nat) : CT := (63, (mkCallee false p'b9 (g'b9 N))) :: ct63 N
theorem hct64 (N : Nat) : CTOK gd P (ct64 N) := .cons (o'b9 N) (hct63 N)

noncomputable def p'ca : Pt := ⟨[(.i .bool), (.i (.sl (.int .i64))), (.i (.sl (.int .i64))), .u, .u, .u, (.p 0 [] 0), (.i (.sl (.int .i64))), .u, .u, .u, .u, .u, .u, .u, .u, .u, .u, .u, .u, .u, .u, .u, .u, .u, .u, .u, .u, .u, .u, .u, .u, .u, .u, .u, .u], [(.box 25 (.a [(.i .bool), (.o 1), (.o 2)]) false), (.arr 3 (.int .i64) false), (.arr 3 (.int .i64) false)]⟩
noncomputable def z'ca (F : type_of% @impl_lowest_J2) (v : p'ca.V) (K : KO α) : Option α := F N v.1.1 v.1.2.1 v.1.2.2.1 v.1.2.2.2.2.2.2.2.1 v.2.1.1 v.2.2.1 v.2.2.2.1 (fun o0_0 o0_1 o0_2 o0_3 o0_4 o0_5 => K (.normal ⟨[(.iv .bool o0_0), (.iv (.sl (.int .i64)) o0_1), (.iv (.sl (.int .i64)) o0_2), U, U, U, (.lp 0 [] 0), U, U, U, U, U, U, U, U, U, U, U, U, U, U, U, U, U, U, U, U, U, U, U, U, U, U, U, U, U], [(.box 25 (.agg [(.iv .bool o0_3), (.own 1), (.own 2)]) false), (.arr 3 (.int .i64) o0_4 false), (.arr 3 (.int .i64) o0_5 false)]⟩))
noncomputable def g'ca (v : p'ca.V) (K : KO α) : Option α := z'ca N @impl_lowest_J2 v K
noncomputable def q'ca (N : Nat) : Piece := (mkPiece 20501 p'ca (g'ca N))
noncomputable def i'cb (N : Nat) : Fi := { loans := 0, owns := true, results := [.cell 6 25], rtys := [25], blks := [], regs := [(2, q'ca N)], masks := [] }
noncomputable def b'cb : Code := match Tryz.f84.body with | some c => c | none => .skip
theorem e'ca (v : p'ca.V) (K : KO α) : runSeq env (ct64 N) (i'cb N) 4117 (.seq (codeAt b'cb [1, 1, 0, 0]) (codeAt b'cb [1, 1, 0, 1])) (p'ca.mk' v) K = g'ca N v K := Eq.trans (b := z'ca N @impl_lowest_J2.b v K) (by kernel_rfl) (by unfold g'ca; rw [impl_lowest_J2.eq])
theorem o'ca (N : Nat) : PieceOK gd P (i'cb N) (.seq (codeAt b'cb [1, 1, 0, 0]) (codeAt b'cb [1, 1, 0, 1])) (mkPiece 20501 p'ca (g'ca N)) :=
  piece_seq hE hP (hct64 N) (AllOK.of (F := i'cb N) (l := []) (by kernel_rfl) .nil) (AllOK.of (F := i'cb N) (l := []) (by kernel_rfl) .nil) (e'ca N)
theorem oq'ca (N : Nat) : PieceOK gd P (i'cb N) (.seq (codeAt b'cb [1, 1, 0, 0]) (codeAt b'cb [1, 1, 0, 1])) (q'ca N) := (o'ca N)
noncomputable def p'cb : Pt := ⟨[(.i .bool), (.i (.sl (.int .i64))), (.i (.sl (.int .i64)))], []⟩
noncomputable def z'cb (F : type_of% @impl_lowest) (v : p'cb.V) (K : KF α) : Option α := F N v.1.1 v.1.2.1 v.1.2.2.1 (fun o0_0 => K (.iv (.pair .bool (.pair (.sl (.int .i64)) (.pair (.sl (.int .i64)) .unit))) o0_0) [])
noncomputable def g'cb (v : p'cb.V) (K : KF α) : Option α := z'cb N @impl_lowest v K
theorem e'cb (v : p'cb.V) (K : KF α) : runFn env (ct64 N) (i'cb N) Tryz.f84 (SP.mkL p'cb.slots v.1) (BP.mkL p'cb.store v.2) K = g'cb N v K := Eq.trans (b := z'cb N @impl_lowest.b v K) (by kernel_rfl) (by unfold g'cb; rw [impl_lowest.eq])
theorem o'cb (N : Nat) : CalleeOK gd P 84 (mkCallee false p'cb (g'cb N)) :=
  callee_ok fun v K h => fn_snd hE hP (hct64 N) Tryz.func84 (by kernel_rfl) (body := b'cb) (by kernel_rfl) (by kernel_rfl) (AllOK.of (F := i'cb N) (l := [((.seq (codeAt b'cb [1, 1, 0, 0]) (codeAt b'cb [1, 1, 0, 1])), q'ca N)]) (by kernel_rfl) (.cons (oq'ca N) .nil)) (loans := BP.mkL p'cb.store v.2) rfl ((e'cb N v K).trans h)
noncomputable def ct65 (N : Nat) : CT := (84, (mkCallee false p'cb (g'cb N))) :: ct64 N
theorem hct65 (N : Nat) : CTOK gd P (ct65 N) := .cons (o'cb N) (hct64 N)

noncomputable def i'cc (N : Nat) : Fi := { loans := 0, owns := true, results := [.cell 2 25, .tmp 3], rtys := [25, 4], blks := [], regs := [], masks := [] }
noncomputable def b'cc : Code := match Tryz.f39.body with | some c => c | none => .skip
noncomputable def p'cc : Pt := ⟨[(.i .str)], []⟩
noncomputable def z'cc (F : type_of% @impl_DecFrac) (v : p'cc.V) (K : KF α) : Option α := F N v.1.1 (fun o0_0 o0_1 o0_2 o0_3 => K (.tuple [(.agg [(.iv .bool o0_0), (.own 0), (.own 1)]), (.iv .bool o0_1)]) [(.arr 3 (.int .i64) o0_2 false), (.arr 3 (.int .i64) o0_3 false)])
noncomputable def g'cc (v : p'cc.V) (K : KF α) : Option α := z'cc N @impl_DecFrac v K
theorem e'cc (v : p'cc.V) (K : KF α) : runFn env (ct65 N) (i'cc N) Tryz.f39 (SP.mkL p'cc.slots v.1) (BP.mkL p'cc.store v.2) K = g'cc N v K := Eq.trans (b := z'cc N @impl_DecFrac.b v K) (by kernel_rfl) (by unfold g'cc; rw [impl_DecFrac.eq])
theorem o'cc (N : Nat) : CalleeOK gd P 39 (mkCallee false p'cc (g'cc N)) :=
  callee_ok fun v K h => fn_snd hE hP (hct65 N) Tryz.func39 (by kernel_rfl) (body := b'cc) (by kernel_rfl) (by kernel_rfl) (AllOK.of (F := i'cc N) (l := []) (by kernel_rfl) .nil) (loans := BP.mkL p'cc.store v.2) rfl ((e'cc N v K).trans h)
noncomputable def ct66 (N : Nat) : CT := (39, (mkCallee false p'cc (g'cc N))) :: ct65 N
theorem hct66 (N : Nat) : CTOK gd P (ct66 N) := .cons (o'cc N) (hct65 N)

noncomputable def i'cd (N : Nat) : Fi := { loans := 0, owns := true, results := [.cell 2 111, .tmp 3], rtys := [111, 4], blks := [], regs := [], masks := [] }
noncomputable def b'cd : Code := match Tryz.f88.body with | some c => c | none => .skip
noncomputable def p'cd : Pt := ⟨[(.i (.int .i64))], []⟩
noncomputable def z'cd (F : type_of% @impl_formatOf) (v : p'cd.V) (K : KF α) : Option α := F N v.1.1 (fun o0_0 o0_1 => K (.tuple [(.iv (.pair (.int .i64) (.pair (.int .i64) (.pair (.int .i64) (.pair (.int .i64) .unit)))) o0_0), (.iv .bool o0_1)]) [])
noncomputable def g'cd (v : p'cd.V) (K : KF α) : Option α := z'cd N @impl_formatOf v K
theorem e'cd (v : p'cd.V) (K : KF α) : runFn env (ct66 N) (i'cd N) Tryz.f88 (SP.mkL p'cd.slots v.1) (BP.mkL p'cd.store v.2) K = g'cd N v K := Eq.trans (b := z'cd N @impl_formatOf.b v K) (by kernel_rfl) (by unfold g'cd; rw [impl_formatOf.eq])
theorem o'cd (N : Nat) : CalleeOK gd P 88 (mkCallee false p'cd (g'cd N)) :=
  callee_ok fun v K h => fn_snd hE hP (hct66 N) Tryz.func88 (by kernel_rfl) (body := b'cd) (by kernel_rfl) (by kernel_rfl) (AllOK.of (F := i'cd N) (l := []) (by kernel_rfl) .nil) (loans := BP.mkL p'cd.store v.2) rfl ((e'cd N v K).trans h)
noncomputable def ct67 (N : Nat) : CT := (88, (mkCallee false p'cd (g'cd N))) :: ct66 N
theorem hct67 (N : Nat) : CTOK gd P (ct67 N) := .cons (o'cd N) (hct66 N)

noncomputable def i'ce (N : Nat) : Fi := { loans := 0, owns := true, results := [.tmp 6], rtys := [4], blks := [], regs := [], masks := [] }
noncomputable def b'ce : Code := match Tryz.f99.body with | some c => c | none => .skip
noncomputable def p'ce : Pt := ⟨[(.i (.int .i64)), (.i (.int .i64)), (.i (.int .i64))], []⟩
noncomputable def z'ce (F : type_of% @impl_in) (v : p'ce.V) (K : KF α) : Option α := F N v.1.1 v.1.2.1 v.1.2.2.1 (fun o0_0 => K (.iv .bool o0_0) [])
noncomputable def g'ce (v : p'ce.V) (K : KF α) : Option α := z'ce N @impl_in v K
theorem e'ce (v : p'ce.V) (K : KF α) : runFn env (ct67 N) (i'ce N) Tryz.f99 (SP.mkL p'ce.slots v.1) (BP.mkL p'ce.store v.2) K = g'ce N v K := Eq.trans (b := z'ce N @impl_in.b v K) (by kernel_rfl) (by unfold g'ce; rw [impl_in.eq])
theorem o'ce (N : Nat) : CalleeOK gd P 99 (mkCallee false p'ce (g'ce N)) :=
  callee_ok fun v K h => fn_snd hE hP (hct67 N) Tryz.func99 (by kernel_rfl) (body := b'ce) (by kernel_rfl) (by kernel_rfl) (AllOK.of (F := i'ce N) (l := []) (by kernel_rfl) .nil) (loans := BP.mkL p'ce.store v.2) rfl ((e'ce N v K).trans h)
noncomputable def ct68 (N : Nat) : CT := (99, (mkCallee false p'ce (g'ce N))) :: ct67 N
theorem hct68 (N : Nat) : CTOK gd P (ct68 N) := .cons (o'ce N) (hct67 N)

noncomputable def i'cf (N : Nat) : Fi := { loans := 0, owns := true, results := [.tmp 2], rtys := [4], blks := [], regs := [], masks := [] }
noncomputable def b'cf : Code := match Tryz.f138.body with | some c => c | none => .skip
noncomputable def p'cf : Pt := ⟨[(.i (.int .i64))], []⟩
noncomputable def z'cf (F : type_of% @impl_NatOk_1) (v : p'cf.V) (K : KF α) : Option α := F N v.1.1 (fun o0_0 => K (.iv .bool o0_0) [])
noncomputable def g'cf (v : p'cf.V) (K : KF α) : Option α := z'cf N @impl_NatOk_1 v K
theorem e'cf (v : p'cf.V) (K : KF α) : runFn env (ct68 N) (i'cf N) Tryz.f138 (SP.mkL p'cf.slots v.1) (BP.mkL p'cf.store v.2) K = g'cf N v K := Eq.trans (b := z'cf N @impl_NatOk_1.b v K) (by kernel_rfl) (by unfold g'cf; rw [impl_NatOk_1.eq])
theorem o'cf (N : Nat) : CalleeOK gd P 138 (mkCallee false p'cf (g'cf N)) :=
  callee_ok fun v K h => fn_snd hE hP (hct68 N) Tryz.func138 (by kernel_rfl) (body := b'cf) (by kernel_rfl) (by kernel_rfl) (AllOK.of (F := i'cf N) (l := []) (by kernel_rfl) .nil) (loans := BP.mkL p'cf.store v.2) rfl ((e'cf N v K).trans h)
noncomputable def ct69 (N : Nat) : CT := (138, (mkCallee false p'cf (g'cf N))) :: ct68 N
theorem hct69 (N : Nat) : CTOK gd P (ct69 N) := .cons (o'cf N) (hct68 N)

noncomputable def p'cg : Pt := ⟨[(.i (.sl (.int .i64))), (.f 138 []), .u, .u, .u, .u, .u, (.i (.int .i64)), (.i (.int .i64)), .u, .u, .u, .u, .u, .u, .u, .u, .u, .u], []⟩
noncomputable def g'cg (n : Nat) (v : p'cg.V) (K : KO α) : Option α := slices_IndexFunc_int_int__impl_NatOk_1_L0 N n v.1.1 v.1.2.2.2.2.2.2.2.1 v.1.2.2.2.2.2.2.2.2.1 (fun o0_0 => K (.ret (.iv (.int .i64) o0_0) [])) (K (.normal ⟨(us 19 []), []⟩))
noncomputable def q'cg (N : Nat) : Piece := (mkPiece 81925 p'cg (g'cg N N))
noncomputable def i'ch (N : Nat) : Fi := { loans := 0, owns := true, results := [.tmp 4], rtys := [3], blks := [(0, q'cg N)], regs := [], masks := [(0, 0)] }
noncomputable def b'ch : Code := match Tryz.f164.body with | some c => c | none => .skip
theorem e'cg (n : Nat) (v : p'cg.V) (K : KO α) : runRound env (ct69 N) (i'ch N) 81925 (mkPiece 81925 p'cg (g'cg N n)).run (.block 0 (.loop (codeAt b'ch [1, 0, 1, 0, 0]))) (p'cg.mk' v) K = g'cg N (n + 1) v K := Eq.trans (b := slices_IndexFunc_int_int__impl_NatOk_1_L0r N (fun y0 y1 y2 => slices_IndexFunc_int_int__impl_NatOk_1_L0 N n y0 y1 y2 (fun o0_0 => K (.ret (.iv (.int .i64) o0_0) [])) (K (.normal ⟨(us 19 []), []⟩))) (fun o0_0 => K (.ret (.iv (.int .i64) o0_0) [])) (K (.normal ⟨(us 19 []), []⟩)) v.1.1 v.1.2.2.2.2.2.2.2.1 v.1.2.2.2.2.2.2.2.2.1) (by kernel_rfl) (by unfold g'cg; rw [slices_IndexFunc_int_int__impl_NatOk_1_L0.succ])
theorem o'cg (N : Nat) : PieceOK gd P (i'ch N) (.block 0 (.loop (codeAt b'ch [1, 0, 1, 0, 0]))) (mkPiece 81925 p'cg (g'cg N N)) :=
  piece_loop hE hP (hct69 N) (AllOK.of (F := i'ch N) (l := []) (by kernel_rfl) .nil) (fun n {_} => g'cg N n) (fun _ _ => by unfold g'cg; rw [slices_IndexFunc_int_int__impl_NatOk_1_L0.zero]) (fun n {_} v K => e'cg N n v K) N
theorem oq'cg (N : Nat) : PieceOK gd P (i'ch N) (.block 0 (.loop (codeAt b'ch [1, 0, 1, 0, 0]))) (q'cg N) := (o'cg N)
noncomputable def p'ch : Pt := ⟨[(.i (.sl (.int .i64))), (.f 138 [])], []⟩
noncomputable def z'ch (F : type_of% @slices_IndexFunc_int_int__impl_NatOk_1) (v : p'ch.V) (K : KF α) : Option α := F N v.1.1 (fun o0_0 => K (.iv (.int .i64) o0_0) [])
noncomputable def g'ch (v : p'ch.V) (K : KF α) : Option α := z'ch N @slices_IndexFunc_int_int__impl_NatOk_1 v K
theorem e'ch (v : p'ch.V) (K : KF α) : runFn env (ct69 N) (i'ch N) Tryz.f164 (SP.mkL p'ch.slots v.1) (BP.mkL p'ch.store v.2) K = g'ch N v K := Eq.trans (b := z'ch N @slices_IndexFunc_int_int__impl_NatOk_1.b v K) (by kernel_rfl) (by unfold g'ch; rw [slices_IndexFunc_int_int__impl_NatOk_1.eq])
theorem o'ch (N : Nat) : CalleeOK gd P 164 (mkCallee false p'ch (g'ch N)) :=
  callee_ok fun v K h => fn_snd hE hP (hct69 N) Tryz.func164 (by kernel_rfl) (body := b'ch) (by kernel_rfl) (by kernel_rfl) (AllOK.of (F := i'ch N) (l := [((.block 0 (.loop (codeAt b'ch [1, 0, 1, 0, 0]))), q'cg N)]) (by kernel_rfl) (.cons (oq'cg N) .nil)) (loans := BP.mkL p'ch.store v.2) rfl ((e'ch N v K).trans h)
noncomputable def ct70 (N : Nat) : CT := (164, (mkCallee false p'ch (g'ch N))) :: ct69 N
theorem hct70 (N : Nat) : CTOK gd P (ct70 N) := .cons (o'ch N) (hct69 N)

noncomputable def i'ci (N : Nat) : Fi := { loans := 0, owns := true, results := [.tmp 4], rtys := [4], blks := [], regs := [], masks := [] }
noncomputable def b'ci : Code := match Tryz.f137.body with | some c => c | none => .skip
noncomputable def p'ci : Pt := ⟨[(.i (.sl (.int .i64))), (.f 138 [])], []⟩
noncomputable def z'ci (F : type_of% @slices_ContainsFunc_int_int__impl_NatOk_1) (v : p'ci.V) (K : KF α) : Option α := F N v.1.1 (fun o0_0 => K (.iv .bool o0_0) [])
noncomputable def g'ci (v : p'ci.V) (K : KF α) : Option α := z'ci N @slices_ContainsFunc_int_int__impl_NatOk_1 v K
theorem e'ci (v : p'ci.V) (K : KF α) : runFn env (ct70 N) (i'ci N) Tryz.f137 (SP.mkL p'ci.slots v.1) (BP.mkL p'ci.store v.2) K = g'ci N v K := Eq.trans (b := z'ci N @slices_ContainsFunc_int_int__impl_NatOk_1.b v K) (by kernel_rfl) (by unfold g'ci; rw [slices_ContainsFunc_int_int__impl_NatOk_1.eq])
theorem o'ci (N : Nat) : CalleeOK gd P 137 (mkCallee false p'ci (g'ci N)) :=
  callee_ok fun v K h => fn_snd hE hP (hct70 N) Tryz.func137 (by kernel_rfl) (body := b'ci) (by kernel_rfl) (by kernel_rfl) (AllOK.of (F := i'ci N) (l := []) (by kernel_rfl) .nil) (loans := BP.mkL p'ci.store v.2) rfl ((e'ci N v K).trans h)
noncomputable def ct71 (N : Nat) : CT := (137, (mkCallee false p'ci (g'ci N))) :: ct70 N
theorem hct71 (N : Nat) : CTOK gd P (ct71 N) := .cons (o'ci N) (hct70 N)

noncomputable def i'cj (N : Nat) : Fi := { loans := 0, owns := true, results := [.tmp 2], rtys := [4], blks := [], regs := [], masks := [] }
noncomputable def b'cj : Code := match Tryz.f104.body with | some c => c | none => .skip
noncomputable def p'cj : Pt := ⟨[(.i (.sl (.int .i64)))], []⟩
noncomputable def z'cj (F : type_of% @impl_NatOk) (v : p'cj.V) (K : KF α) : Option α := F N v.1.1 (fun o0_0 => K (.iv .bool o0_0) [])
noncomputable def g'cj (v : p'cj.V) (K : KF α) : Option α := z'cj N @impl_NatOk v K
theorem e'cj (v : p'cj.V) (K : KF α) : runFn env (ct71 N) (i'cj N) Tryz.f104 (SP.mkL p'cj.slots v.1) (BP.mkL p'cj.store v.2) K = g'cj N v K := Eq.trans (b := z'cj N @impl_NatOk.b v K) (by kernel_rfl) (by unfold g'cj; rw [impl_NatOk.eq])
theorem o'cj (N : Nat) : CalleeOK gd P 104 (mkCallee false p'cj (g'cj N)) :=
  callee_ok fun v K h => fn_snd hE hP (hct71 N) Tryz.func104 (by kernel_rfl) (body := b'cj) (by kernel_rfl) (by kernel_rfl) (AllOK.of (F := i'cj N) (l := []) (by kernel_rfl) .nil) (loans := BP.mkL p'cj.store v.2) rfl ((e'cj N v K).trans h)
noncomputable def ct72 (N : Nat) : CT := (104, (mkCallee false p'cj (g'cj N))) :: ct71 N
theorem hct72 (N : Nat) : CTOK gd P (ct72 N) := .cons (o'cj N) (hct71 N)

noncomputable def i'ck (N : Nat) : Fi := { loans := 0, owns := true, results := [.tmp 2], rtys := [4], blks := [], regs := [], masks := [] }
noncomputable def b'ck : Code := match Tryz.f103.body with | some c => c | none => .skip
noncomputable def p'ck : Pt := ⟨[(.i (.sl (.int .i64)))], []⟩
noncomputable def z'ck (F : type_of% @impl_nats_1) (v : p'ck.V) (K : KF α) : Option α := F N v.1.1 (fun o0_0 => K (.iv .bool o0_0) [])
noncomputable def g'ck (v : p'ck.V) (K : KF α) : Option α := z'ck N @impl_nats_1 v K
theorem e'ck (v : p'ck.V) (K : KF α) : runFn env (ct72 N) (i'ck N) Tryz.f103 (SP.mkL p'ck.slots v.1) (BP.mkL p'ck.store v.2) K = g'ck N v K := Eq.trans (b := z'ck N @impl_nats_1.b v K) (by kernel_rfl) (by unfold g'ck; rw [impl_nats_1.eq])
theorem o'ck (N : Nat) : CalleeOK gd P 103 (mkCallee false p'ck (g'ck N)) :=
  callee_ok fun v K h => fn_snd hE hP (hct72 N) Tryz.func103 (by kernel_rfl) (body := b'ck) (by kernel_rfl) (by kernel_rfl) (AllOK.of (F := i'ck N) (l := []) (by kernel_rfl) .nil) (loans := BP.mkL p'ck.store v.2) rfl ((e'ck N v K).trans h)
noncomputable def ct73 (N : Nat) : CT := (103, (mkCallee false p'ck (g'ck N))) :: ct72 N
theorem hct73 (N : Nat) : CTOK gd P (ct73 N) := .cons (o'ck N) (hct72 N)

noncomputable def p'cl : Pt := ⟨[(.i (.sl (.sl (.int .i64)))), (.f 103 []), .u, .u, .u, .u, .u, (.i (.int .i64)), (.i (.int .i64)), .u, .u, .u, .u, .u, .u, .u, .u, .u, .u], []⟩
noncomputable def g'cl (n : Nat) (v : p'cl.V) (K : KO α) : Option α := slices_IndexFunc_int_int__impl_nats_1_L0 N n v.1.1 v.1.2.2.2.2.2.2.2.1 v.1.2.2.2.2.2.2.2.2.1 (fun o0_0 => K (.ret (.iv (.int .i64) o0_0) [])) (K (.normal ⟨(us 19 []), []⟩))
noncomputable def q'cl (N : Nat) : Piece := (mkPiece 81925 p'cl (g'cl N N))
end
end
end Go.Proofs.YtnhbcpmmdblkjaaGreatDoorAm
