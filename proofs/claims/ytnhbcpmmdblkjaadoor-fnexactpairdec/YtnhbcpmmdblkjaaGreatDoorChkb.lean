/-
  The functions are what the program computes. Printed by amp.py.
-/
import Derived.Test.YtnhbcpmmdblkjaaGreatDoorChk
namespace Go.Proofs.YtnhbcpmmdblkjaaGreatDoorAm
open Go
noncomputable section
set_option linter.unusedVariables false
set_option linter.unusedSimpArgs false
section
variable (N : Nat) {α : Type}
noncomputable def i'cm (N : Nat) : Fi := { loans := 0, owns := true, results := [.tmp 4], rtys := [3], blks := [(0, q'cl N)], regs := [], masks := [(0, 0)] }
noncomputable def b'cm : Code := match Tryz.f136.body with | some c => c | none => .skip
theorem e'cl (n : Nat) (v : p'cl.V) (K : KO α) : runRound env (ct73 N) (i'cm N) 81925 (mkPiece 81925 p'cl (g'cl N n)).run (.block 0 (.loop (codeAt b'cm [1, 0, 1, 0, 0]))) (p'cl.mk' v) K = g'cl N (n + 1) v K := Eq.trans (b := slices_IndexFunc_int_int__impl_nats_1_L0r N (fun y0 y1 y2 => slices_IndexFunc_int_int__impl_nats_1_L0 N n y0 y1 y2 (fun o0_0 => K (.ret (.iv (.int .i64) o0_0) [])) (K (.normal ⟨(us 19 []), []⟩))) (fun o0_0 => K (.ret (.iv (.int .i64) o0_0) [])) (K (.normal ⟨(us 19 []), []⟩)) v.1.1 v.1.2.2.2.2.2.2.2.1 v.1.2.2.2.2.2.2.2.2.1) (by kernel_rfl) (by unfold g'cl; rw [slices_IndexFunc_int_int__impl_nats_1_L0.succ])
theorem o'cl (N : Nat) : PieceOK gd P (i'cm N) (.block 0 (.loop (codeAt b'cm [1, 0, 1, 0, 0]))) (mkPiece 81925 p'cl (g'cl N N)) :=
  piece_loop hE hP (hct73 N) (AllOK.of (F := i'cm N) (l := []) (by kernel_rfl) .nil) (fun n {_} => g'cl N n) (fun _ _ => by unfold g'cl; rw [slices_IndexFunc_int_int__impl_nats_1_L0.zero]) (fun n {_} v K => e'cl N n v K) N
theorem oq'cl (N : Nat) : PieceOK gd P (i'cm N) (.block 0 (.loop (codeAt b'cm [1, 0, 1, 0, 0]))) (q'cl N) := (o'cl N)
noncomputable def p'cm : Pt := ⟨[(.i (.sl (.sl (.int .i64)))), (.f 103 [])], []⟩
noncomputable def z'cm (F : type_of% @slices_IndexFunc_int_int__impl_nats_1) (v : p'cm.V) (K : KF α) : Option α := F N v.1.1 (fun o0_0 => K (.iv (.int .i64) o0_0) [])
noncomputable def g'cm (v : p'cm.V) (K : KF α) : Option α := z'cm N @slices_IndexFunc_int_int__impl_nats_1 v K
theorem e'cm (v : p'cm.V) (K : KF α) : runFn env (ct73 N) (i'cm N) Tryz.f136 (SP.mkL p'cm.slots v.1) (BP.mkL p'cm.store v.2) K = g'cm N v K := Eq.trans (b := z'cm N @slices_IndexFunc_int_int__impl_nats_1.b v K) (by kernel_rfl) (by unfold g'cm; rw [slices_IndexFunc_int_int__impl_nats_1.eq])
theorem o'cm (N : Nat) : CalleeOK gd P 136 (mkCallee false p'cm (g'cm N)) :=
  callee_ok fun v K h => fn_snd hE hP (hct73 N) Tryz.func136 (by kernel_rfl) (body := b'cm) (by kernel_rfl) (by kernel_rfl) (AllOK.of (F := i'cm N) (l := [((.block 0 (.loop (codeAt b'cm [1, 0, 1, 0, 0]))), q'cl N)]) (by kernel_rfl) (.cons (oq'cl N) .nil)) (loans := BP.mkL p'cm.store v.2) rfl ((e'cm N v K).trans h)
noncomputable def ct74 (N : Nat) : CT := (136, (mkCallee false p'cm (g'cm N))) :: ct73 N
theorem hct74 (N : Nat) : CTOK gd P (ct74 N) := .cons (o'cm N) (hct73 N)

noncomputable def i'cn (N : Nat) : Fi := { loans := 0, owns := true, results := [.tmp 4], rtys := [4], blks := [], regs := [], masks := [] }
noncomputable def b'cn : Code := match Tryz.f102.body with | some c => c | none => .skip
noncomputable def p'cn : Pt := ⟨[(.i (.sl (.sl (.int .i64)))), (.f 103 [])], []⟩
noncomputable def z'cn (F : type_of% @slices_ContainsFunc_int_int__impl_nats_1) (v : p'cn.V) (K : KF α) : Option α := F N v.1.1 (fun o0_0 => K (.iv .bool o0_0) [])
noncomputable def g'cn (v : p'cn.V) (K : KF α) : Option α := z'cn N @slices_ContainsFunc_int_int__impl_nats_1 v K
theorem e'cn (v : p'cn.V) (K : KF α) : runFn env (ct74 N) (i'cn N) Tryz.f102 (SP.mkL p'cn.slots v.1) (BP.mkL p'cn.store v.2) K = g'cn N v K := Eq.trans (b := z'cn N @slices_ContainsFunc_int_int__impl_nats_1.b v K) (by kernel_rfl) (by unfold g'cn; rw [slices_ContainsFunc_int_int__impl_nats_1.eq])
theorem o'cn (N : Nat) : CalleeOK gd P 102 (mkCallee false p'cn (g'cn N)) :=
  callee_ok fun v K h => fn_snd hE hP (hct74 N) Tryz.func102 (by kernel_rfl) (body := b'cn) (by kernel_rfl) (by kernel_rfl) (AllOK.of (F := i'cn N) (l := []) (by kernel_rfl) .nil) (loans := BP.mkL p'cn.store v.2) rfl ((e'cn N v K).trans h)
noncomputable def ct75 (N : Nat) : CT := (102, (mkCallee false p'cn (g'cn N))) :: ct74 N
theorem hct75 (N : Nat) : CTOK gd P (ct75 N) := .cons (o'cn N) (hct74 N)

noncomputable def i'co (N : Nat) : Fi := { loans := 0, owns := true, results := [.tmp 2], rtys := [4], blks := [], regs := [], masks := [] }
noncomputable def b'co : Code := match Tryz.f62.body with | some c => c | none => .skip
noncomputable def p'co : Pt := ⟨[(.i (.sl (.sl (.int .i64))))], []⟩
noncomputable def z'co (F : type_of% @impl_nats) (v : p'co.V) (K : KF α) : Option α := F N v.1.1 (fun o0_0 => K (.iv .bool o0_0) [])
noncomputable def g'co (v : p'co.V) (K : KF α) : Option α := z'co N @impl_nats v K
theorem e'co (v : p'co.V) (K : KF α) : runFn env (ct75 N) (i'co N) Tryz.f62 (SP.mkL p'co.slots v.1) (BP.mkL p'co.store v.2) K = g'co N v K := Eq.trans (b := z'co N @impl_nats.b v K) (by kernel_rfl) (by unfold g'co; rw [impl_nats.eq])
theorem o'co (N : Nat) : CalleeOK gd P 62 (mkCallee false p'co (g'co N)) :=
  callee_ok fun v K h => fn_snd hE hP (hct75 N) Tryz.func62 (by kernel_rfl) (body := b'co) (by kernel_rfl) (by kernel_rfl) (AllOK.of (F := i'co N) (l := []) (by kernel_rfl) .nil) (loans := BP.mkL p'co.store v.2) rfl ((e'co N v K).trans h)
noncomputable def ct76 (N : Nat) : CT := (62, (mkCallee false p'co (g'co N))) :: ct75 N
theorem hct76 (N : Nat) : CTOK gd P (ct76 N) := .cons (o'co N) (hct75 N)

noncomputable def i'cp (N : Nat) : Fi := { loans := 0, owns := true, results := [.tmp 2], rtys := [4], blks := [], regs := [], masks := [] }
noncomputable def b'cp : Code := match Tryz.f25.body with | some c => c | none => .skip
noncomputable def p'cp : Pt := ⟨[(.i (.pair .bool (.pair (.sl (.int .i64)) (.pair (.sl (.int .i64)) .unit))))], []⟩
noncomputable def z'cp (F : type_of% @impl_FracOk) (v : p'cp.V) (K : KF α) : Option α := F N v.1.1 (fun o0_0 => K (.iv .bool o0_0) [])
noncomputable def g'cp (v : p'cp.V) (K : KF α) : Option α := z'cp N @impl_FracOk v K
theorem e'cp (v : p'cp.V) (K : KF α) : runFn env (ct76 N) (i'cp N) Tryz.f25 (SP.mkL p'cp.slots v.1) (BP.mkL p'cp.store v.2) K = g'cp N v K := Eq.trans (b := z'cp N @impl_FracOk.b v K) (by kernel_rfl) (by unfold g'cp; rw [impl_FracOk.eq])
theorem o'cp (N : Nat) : CalleeOK gd P 25 (mkCallee false p'cp (g'cp N)) :=
  callee_ok fun v K h => fn_snd hE hP (hct76 N) Tryz.func25 (by kernel_rfl) (body := b'cp) (by kernel_rfl) (by kernel_rfl) (AllOK.of (F := i'cp N) (l := []) (by kernel_rfl) .nil) (loans := BP.mkL p'cp.store v.2) rfl ((e'cp N v K).trans h)
noncomputable def ct77 (N : Nat) : CT := (25, (mkCallee false p'cp (g'cp N))) :: ct76 N
theorem hct77 (N : Nat) : CTOK gd P (ct77 N) := .cons (o'cp N) (hct76 N)

noncomputable def i'cq (N : Nat) : Fi := { loans := 0, owns := true, results := [.tmp 4], rtys := [4], blks := [], regs := [], masks := [] }
noncomputable def b'cq : Code := match Tryz.f56.body with | some c => c | none => .skip
noncomputable def p'cq : Pt := ⟨[(.i (.int .i64)), (.i (.pair .bool (.pair (.sl (.int .i64)) (.pair (.sl (.int .i64)) .unit))))], []⟩
noncomputable def z'cq (F : type_of% @impl_floated) (v : p'cq.V) (K : KF α) : Option α := F N v.1.1 v.1.2.1 (fun o0_0 => K (.iv .bool o0_0) [])
noncomputable def g'cq (v : p'cq.V) (K : KF α) : Option α := z'cq N @impl_floated v K
theorem e'cq (v : p'cq.V) (K : KF α) : runFn env (ct77 N) (i'cq N) Tryz.f56 (SP.mkL p'cq.slots v.1) (BP.mkL p'cq.store v.2) K = g'cq N v K := Eq.trans (b := z'cq N @impl_floated.b v K) (by kernel_rfl) (by unfold g'cq; rw [impl_floated.eq])
theorem o'cq (N : Nat) : CalleeOK gd P 56 (mkCallee false p'cq (g'cq N)) :=
  callee_ok fun v K h => fn_snd hE hP (hct77 N) Tryz.func56 (by kernel_rfl) (body := b'cq) (by kernel_rfl) (by kernel_rfl) (AllOK.of (F := i'cq N) (l := []) (by kernel_rfl) .nil) (loans := BP.mkL p'cq.store v.2) rfl ((e'cq N v K).trans h)
noncomputable def ct78 (N : Nat) : CT := (56, (mkCallee false p'cq (g'cq N))) :: ct77 N
theorem hct78 (N : Nat) : CTOK gd P (ct78 N) := .cons (o'cq N) (hct77 N)

noncomputable def i'cr (N : Nat) : Fi := { loans := 0, owns := true, results := [.tmp 2], rtys := [3], blks := [], regs := [], masks := [] }
noncomputable def b'cr : Code := match Tryz.f132.body with | some c => c | none => .skip
noncomputable def p'cr : Pt := ⟨[(.i (.sl (.int .i64)))], []⟩
noncomputable def z'cr (F : type_of% @impl_natBits) (v : p'cr.V) (K : KF α) : Option α := F N v.1.1 (fun o0_0 => K (.iv (.int .i64) o0_0) [])
noncomputable def g'cr (v : p'cr.V) (K : KF α) : Option α := z'cr N @impl_natBits v K
theorem e'cr (v : p'cr.V) (K : KF α) : runFn env (ct78 N) (i'cr N) Tryz.f132 (SP.mkL p'cr.slots v.1) (BP.mkL p'cr.store v.2) K = g'cr N v K := Eq.trans (b := z'cr N @impl_natBits.b v K) (by kernel_rfl) (by unfold g'cr; rw [impl_natBits.eq])
theorem o'cr (N : Nat) : CalleeOK gd P 132 (mkCallee false p'cr (g'cr N)) :=
  callee_ok fun v K h => fn_snd hE hP (hct78 N) Tryz.func132 (by kernel_rfl) (body := b'cr) (by kernel_rfl) (by kernel_rfl) (AllOK.of (F := i'cr N) (l := []) (by kernel_rfl) .nil) (loans := BP.mkL p'cr.store v.2) rfl ((e'cr N v K).trans h)
noncomputable def ct79 (N : Nat) : CT := (132, (mkCallee false p'cr (g'cr N))) :: ct78 N
theorem hct79 (N : Nat) : CTOK gd P (ct79 N) := .cons (o'cr N) (hct78 N)

noncomputable def p'cs : Pt := ⟨[.i (.int .u64)], []⟩
noncomputable def g'cs (N : Nat) {α : Type} (v : p'cs.V) (K : HV → List Blk → Option α) : Option α := math_bits_TrailingZeros64 N v.1.1 (fun x => K (.iv (.int .i64) x) [])
theorem o'cs (N : Nat) : CalleeOK gd P 158 (mkCallee false p'cs (g'cs N)) :=
  callee_tz64 (gd := gd) lays29 (by kernel_rfl) Tryz.func158 (by kernel_rfl) (by kernel_rfl) (by kernel_rfl) (fun w h => errGd_tab (.head _) h) N
noncomputable def ct80 (N : Nat) : CT := (158, (mkCallee false p'cs (g'cs N))) :: ct79 N
theorem hct80 (N : Nat) : CTOK gd P (ct80 N) := .cons (o'cs N) (hct79 N)

noncomputable def p'ct : Pt := ⟨[.u, .u, .u, (.p 0 [] 0), .u, .u, (.p 1 [] 0), .u, .u, (.i (.int .u64)), (.i (.int .i64)), (.i (.int .i64)), .u, .u, (.i (.int .i64)), .u, .u, .u, .u, .u, .u, .u, .u, .u, .u, .u, .u, .u, .u, .u, .u, .u, .u, .u, .u, .u, .u, .u, .u, .u, .u, .u, .u, .u, .u, .u, .u, .u, .u, .u, .u, .u, .u, .u, .u, .u, .u, .u, .u, .u, .u, .u, .u, .u, .u, .u, .u, .u, .u, .u, .u, .u, .u, .u, .u, .u, .u, .u, .u, .u, .u, .u, .u, .u, .u, .u, .u, .u, .u, .u, .u, .u, .u, .u, .u, .u, .u, .u, .u, .u, .u, .u, .u], [(.box 116 (.i (.pair .bool (.pair (.int .u64) (.pair (.int .i64) .unit)))) false), (.box 111 (.i (.pair (.int .i64) (.pair (.int .i64) (.pair (.int .i64) (.pair (.int .i64) .unit))))) false)]⟩
noncomputable def z'ct (F : type_of% @impl_BitMake_J14) (v : p'ct.V) (K : KO α) : Option α := F N v.1.2.2.2.2.2.2.2.2.2.1 v.1.2.2.2.2.2.2.2.2.2.2.1 v.1.2.2.2.2.2.2.2.2.2.2.2.1 v.1.2.2.2.2.2.2.2.2.2.2.2.2.2.2.1 v.2.1 v.2.2.1 (fun o0_0 o0_1 => K (.normal ⟨[U, U, U, (.lp 0 [] 0), U, U, U, U, U, U, U, U, U, (.iv (.int .i64) o0_0), U, U, U, U, U, U, U, U, U, U, U, U, U, U, U, U, U, U, U, U, U, U, U, U, U, U, U, U, U, U, U, U, U, U, U, U, U, U, U, U, U, U, U, U, U, U, U, U, U, U, U, U, U, U, U, U, U, U, U, U, U, U, U, U, U, U, U, U, U, U, U, U, U, U, U, U, U, U, U, U, U, U, U, U, U, U, U, U, U], [(.box 116 (.iv (.pair .bool (.pair (.int .u64) (.pair (.int .i64) .unit))) o0_1) false)]⟩))
noncomputable def g'ct (v : p'ct.V) (K : KO α) : Option α := z'ct N @impl_BitMake_J14 v K
noncomputable def p'cu : Pt := ⟨[.u, .u, .u, (.p 0 [] 0), .u, .u, .u, .u, .u, .u, .u, .u, .u, (.i (.int .i64)), .u, .u, .u, .u, .u, .u, .u, .u, .u, .u, .u, .u, .u, .u, .u, .u, .u, .u, .u, .u, .u, .u, .u, .u, .u, .u, .u, .u, .u, .u, .u, .u, .u, .u, .u, .u, .u, .u, .u, .u, .u, .u, .u, .u, .u, .u, .u, .u, .u, .u, .u, .u, .u, .u, .u, .u, .u, .u, .u, .u, .u, .u, .u, .u, .u, .u, .u, .u, .u, .u, .u, .u, .u, .u, .u, .u, .u, .u, .u, .u, .u, .u, .u, .u, .u, .u, .u, .u, .u], [(.box 116 (.i (.pair .bool (.pair (.int .u64) (.pair (.int .i64) .unit)))) false)]⟩
noncomputable def z'cu (F : type_of% @impl_BitMake_J17) (v : p'cu.V) (K : KO α) : Option α := F N v.1.2.2.2.2.2.2.2.2.2.2.2.2.2.1 v.2.1 (fun o0_0 => K (.normal ⟨(us 13 [(.iv (.int .i64) o0_0), U, U, U, U, U, U, U, U, U, U, U, U, U, U, U, U, U, U, U, U, U, U, U, U, U, U, U, U, U, U, U, U, U, U, U, U, U, U, U, U, U, U, U, U, U, U, U, U, U, U, U, U, U, U, U, U, U, U, U, U, U, U, U, U, U, U, U, U, U, U, U, U, U, U, U, U, U, U, U, U, U, U, U, U, U, U, U, U, U]), []⟩))
noncomputable def g'cu (v : p'cu.V) (K : KO α) : Option α := z'cu N @impl_BitMake_J17 v K
noncomputable def q'ct (N : Nat) : Piece := (mkPiece 273944640 p'ct (g'ct N))
noncomputable def q'cu (N : Nat) : Piece := (mkPiece 67108928 p'cu (g'cu N))
noncomputable def i'cv (N : Nat) : Fi := { loans := 0, owns := true, results := [.tmp 4, .tmp 5], rtys := [3, 4], blks := [], regs := [(14, q'ct N), (17, q'cu N)], masks := [] }
noncomputable def b'cv : Code := match Tryz.f133.body with | some c => c | none => .skip
theorem e'ct (v : p'ct.V) (K : KO α) : runSeq env (ct80 N) (i'cv N) 67108928 (.seq (codeAt b'cv [1, 1, 1, 1, 1, 1, 1, 1, 1, 0, 1, 0]) (codeAt b'cv [1, 1, 1, 1, 1, 1, 1, 1, 1, 0, 1, 1])) (p'ct.mk' v) K = g'ct N v K := Eq.trans (b := z'ct N @impl_BitMake_J14.b v K) (by kernel_rfl) (by unfold g'ct; rw [impl_BitMake_J14.eq])
theorem o'ct (N : Nat) : PieceOK gd P (i'cv N) (.seq (codeAt b'cv [1, 1, 1, 1, 1, 1, 1, 1, 1, 0, 1, 0]) (codeAt b'cv [1, 1, 1, 1, 1, 1, 1, 1, 1, 0, 1, 1])) (mkPiece 273944640 p'ct (g'ct N)) :=
  piece_seq hE hP (hct80 N) (AllOK.of (F := i'cv N) (l := []) (by kernel_rfl) .nil) (AllOK.of (F := i'cv N) (l := []) (by kernel_rfl) .nil) (e'ct N)
theorem oq'ct (N : Nat) : PieceOK gd P (i'cv N) (.seq (codeAt b'cv [1, 1, 1, 1, 1, 1, 1, 1, 1, 0, 1, 0]) (codeAt b'cv [1, 1, 1, 1, 1, 1, 1, 1, 1, 0, 1, 1])) (q'ct N) := (o'ct N)
theorem e'cu (v : p'cu.V) (K : KO α) : runSeq env (ct80 N) (i'cv N) 67108864 (.seq (codeAt b'cv [1, 1, 1, 1, 1, 1, 1, 1, 1, 1, 0, 0]) (codeAt b'cv [1, 1, 1, 1, 1, 1, 1, 1, 1, 1, 0, 1])) (p'cu.mk' v) K = g'cu N v K := Eq.trans (b := z'cu N @impl_BitMake_J17.b v K) (by kernel_rfl) (by unfold g'cu; rw [impl_BitMake_J17.eq])
theorem o'cu (N : Nat) : PieceOK gd P (i'cv N) (.seq (codeAt b'cv [1, 1, 1, 1, 1, 1, 1, 1, 1, 1, 0, 0]) (codeAt b'cv [1, 1, 1, 1, 1, 1, 1, 1, 1, 1, 0, 1])) (mkPiece 67108928 p'cu (g'cu N)) :=
  piece_seq hE hP (hct80 N) (AllOK.of (F := i'cv N) (l := []) (by kernel_rfl) .nil) (AllOK.of (F := i'cv N) (l := []) (by kernel_rfl) .nil) (e'cu N)
theorem oq'cu (N : Nat) : PieceOK gd P (i'cv N) (.seq (codeAt b'cv [1, 1, 1, 1, 1, 1, 1, 1, 1, 1, 0, 0]) (codeAt b'cv [1, 1, 1, 1, 1, 1, 1, 1, 1, 1, 0, 1])) (q'cu N) := (o'cu N)
noncomputable def p'cv : Pt := ⟨[(.i (.int .i64)), (.i (.pair .bool (.pair (.int .u64) (.pair (.int .i64) .unit))))], []⟩
noncomputable def z'cv (F : type_of% @impl_BitMake) (v : p'cv.V) (K : KF α) : Option α := F N v.1.1 v.1.2.1 (fun o0_0 o0_1 => K (.tuple [(.iv (.int .i64) o0_0), (.iv .bool o0_1)]) [])
noncomputable def g'cv (v : p'cv.V) (K : KF α) : Option α := z'cv N @impl_BitMake v K
theorem e'cv (v : p'cv.V) (K : KF α) : runFn env (ct80 N) (i'cv N) Tryz.f133 (SP.mkL p'cv.slots v.1) (BP.mkL p'cv.store v.2) K = g'cv N v K := Eq.trans (b := z'cv N @impl_BitMake.b v K) (by kernel_rfl) (by unfold g'cv; rw [impl_BitMake.eq])
theorem o'cv (N : Nat) : CalleeOK gd P 133 (mkCallee false p'cv (g'cv N)) :=
  callee_ok fun v K h => fn_snd hE hP (hct80 N) Tryz.func133 (by kernel_rfl) (body := b'cv) (by kernel_rfl) (by kernel_rfl) (AllOK.of (F := i'cv N) (l := [((.seq (codeAt b'cv [1, 1, 1, 1, 1, 1, 1, 1, 1, 0, 1, 0]) (codeAt b'cv [1, 1, 1, 1, 1, 1, 1, 1, 1, 0, 1, 1])), q'ct N), ((.seq (codeAt b'cv [1, 1, 1, 1, 1, 1, 1, 1, 1, 1, 0, 0]) (codeAt b'cv [1, 1, 1, 1, 1, 1, 1, 1, 1, 1, 0, 1])), q'cu N)]) (by kernel_rfl) (.cons (oq'ct N) (.cons (oq'cu N) .nil))) (loans := BP.mkL p'cv.store v.2) rfl ((e'cv N v K).trans h)
noncomputable def ct81 (N : Nat) : CT := (133, (mkCallee false p'cv (g'cv N))) :: ct80 N
theorem hct81 (N : Nat) : CTOK gd P (ct81 N) := .cons (o'cv N) (hct80 N)

noncomputable def p'cw : Pt := ⟨[(.i (.int .i64)), .u, .u, .u, .u, .u, (.p 0 [] 0), .u, (.i (.int .i64)), (.i (.int .i64)), (.i (.sl (.int .i64))), (.i (.sl (.int .i64))), .u, .u, .u, .u, .u, .u, .u, .u, .u, .u, .u, .u, .u, .u, .u, .u, .u, .u, .u, .u, .u, .u, .u, .u, .u, .u, .u, .u, .u, .u, .u, .u, .u, .u, .u, .u, .u, .u, .u, .u, .u, .u, .u, .u, .u, .u, .u, .u, .u, .u, .u, .u, .u, .u, .u, .u, .u, .u, .u, .u, .u, .u, .u, .u, .u, .u, .u, .u, .u, .u, .u, .u, .u, .u, .u, .u, .u, .u, .u, .u, .u, .u, .u, .u, .u, .u, .u, .u, .u, .u, .u, .u, .u, .u, .u, .u, .u, .u, .u, .u], [(.box 111 (.i (.pair (.int .i64) (.pair (.int .i64) (.pair (.int .i64) (.pair (.int .i64) .unit))))) false)]⟩
noncomputable def z'cw (F : type_of% @impl_truncated_J7) (v : p'cw.V) (K : KO α) : Option α := F N v.1.1 v.1.2.2.2.2.2.2.2.2.1 v.1.2.2.2.2.2.2.2.2.2.1 v.1.2.2.2.2.2.2.2.2.2.2.1 v.1.2.2.2.2.2.2.2.2.2.2.2.1 v.2.1 (fun o0_0 o0_1 o0_2 o0_3 o0_4 o0_5 => K (.normal ⟨[(.iv (.int .i64) o0_0), U, U, U, U, U, (.lp 0 [] 0), U, (.iv (.int .i64) o0_1), (.iv (.int .i64) o0_2), (.iv (.sl (.int .i64)) o0_3), (.iv (.sl (.int .i64)) o0_4), U, U, U, U, U, U, U, U, U, U, U, U, U, U, U, U, U, U, U, U, U, U, U, U, U, U, U, U, U, U, U, U, U, U, U, U, U, U, U, U, U, U, U, U, U, U, U, U, U, U, U, U, U, U, U, U, U, U, U, U, U, U, U, U, U, U, U, U, U, U, U, U, U, U, U, U, U, U, U, U, U, U, U, U, U, U, U, U, U, U, U, U, U, U, U, U, U, U, U, U], [(.box 111 (.iv (.pair (.int .i64) (.pair (.int .i64) (.pair (.int .i64) (.pair (.int .i64) .unit)))) o0_5) false)]⟩))
noncomputable def g'cw (v : p'cw.V) (K : KO α) : Option α := z'cw N @impl_truncated_J7 v K
noncomputable def p'cx : Pt := ⟨[(.i (.int .i64)), .u, .u, .u, .u, .u, (.p 0 [] 0), .u, (.i (.int .i64)), (.i (.int .i64)), .u, .u, (.i (.sl (.int .i64))), .u, (.i .bool), .u, .u, .u, .u, .u, .u, .u, .u, .u, .u, .u, .u, .u, .u, .u, .u, .u, .u, .u, .u, .u, .u, .u, .u, .u, .u, .u, .u, .u, .u, .u, .u, .u, .u, .u, .u, .u, .u, .u, .u, .u, .u, .u, .u, .u, .u, .u, .u, .u, .u, .u, .u, .u, .u, .u, .u, .u, .u, .u, .u, .u, .u, .u, .u, .u, .u, .u, .u, .u, .u, .u, .u, .u, .u, .u, .u, .u, .u, .u, .u, .u, .u, .u, .u, .u, .u, .u, .u, .u, .u, .u, .u, .u, .u, .u, .u, .u], [(.box 111 (.i (.pair (.int .i64) (.pair (.int .i64) (.pair (.int .i64) (.pair (.int .i64) .unit))))) false)]⟩
noncomputable def z'cx (F : type_of% @impl_truncated_J12) (v : p'cx.V) (K : KO α) : Option α := F N v.1.1 v.1.2.2.2.2.2.2.2.2.1 v.1.2.2.2.2.2.2.2.2.2.1 v.1.2.2.2.2.2.2.2.2.2.2.2.2.1 v.1.2.2.2.2.2.2.2.2.2.2.2.2.2.2.1 v.2.1 (fun o0_0 o0_1 o0_2 o0_3 o0_4 => K (.normal ⟨[(.iv (.int .i64) o0_0), U, U, U, U, U, (.lp 0 [] 0), U, U, (.iv (.int .i64) o0_1), U, U, (.iv (.sl (.int .i64)) o0_2), U, (.iv .bool o0_3), U, U, U, U, U, U, U, U, U, U, U, U, U, U, U, U, U, U, U, U, U, U, U, U, U, U, U, U, U, U, U, U, U, U, U, U, U, U, U, U, U, U, U, U, U, U, U, U, U, U, U, U, U, U, U, U, U, U, U, U, U, U, U, U, U, U, U, U, U, U, U, U, U, U, U, U, U, U, U, U, U, U, U, U, U, U, U, U, U, U, U, U, U, U, U, U, U], [(.box 111 (.iv (.pair (.int .i64) (.pair (.int .i64) (.pair (.int .i64) (.pair (.int .i64) .unit)))) o0_4) false)]⟩))
noncomputable def g'cx (v : p'cx.V) (K : KO α) : Option α := z'cx N @impl_truncated_J12 v K
noncomputable def p'cy : Pt := ⟨[(.i (.int .i64)), .u, .u, .u, .u, .u, (.p 0 [] 0), .u, .u, (.i (.int .i64)), .u, .u, .u, .u, (.i .bool), (.i (.int .u64)), .u, .u, .u, .u, .u, .u, .u, .u, .u, .u, .u, .u, .u, .u, .u, .u, .u, .u, .u, .u, .u, .u, .u, .u, .u, .u, .u, .u, .u, .u, .u, .u, .u, .u, .u, .u, .u, .u, .u, .u, .u, .u, .u, .u, .u, .u, .u, .u, .u, .u, .u, .u, .u, .u, .u, .u, .u, .u, .u, .u, .u, .u, .u, .u, .u, .u, (.i (.sl (.int .i64))), (.i (.int .i64)), (.i (.int .i64)), .u, .u, .u, .u, .u, .u, .u, .u, .u, .u, .u, .u, .u, .u, .u, .u, .u, .u, .u, .u, .u, .u, .u, .u, .u, .u, .u], [(.box 111 (.i (.pair (.int .i64) (.pair (.int .i64) (.pair (.int .i64) (.pair (.int .i64) .unit))))) false)]⟩
noncomputable def g'cy (n : Nat) (v : p'cy.V) (K : KO α) : Option α := impl_truncated_L0 N n v.1.1 v.1.2.2.2.2.2.2.2.2.2.1 v.1.2.2.2.2.2.2.2.2.2.2.2.2.2.2.1 v.1.2.2.2.2.2.2.2.2.2.2.2.2.2.2.2.1 v.1.2.2.2.2.2.2.2.2.2.2.2.2.2.2.2.2.2.2.2.2.2.2.2.2.2.2.2.2.2.2.2.2.2.2.2.2.2.2.2.2.2.2.2.2.2.2.2.2.2.2.2.2.2.2.2.2.2.2.2.2.2.2.2.2.2.2.2.2.2.2.2.2.2.2.2.2.2.2.2.2.2.2.1 v.1.2.2.2.2.2.2.2.2.2.2.2.2.2.2.2.2.2.2.2.2.2.2.2.2.2.2.2.2.2.2.2.2.2.2.2.2.2.2.2.2.2.2.2.2.2.2.2.2.2.2.2.2.2.2.2.2.2.2.2.2.2.2.2.2.2.2.2.2.2.2.2.2.2.2.2.2.2.2.2.2.2.2.2.1 v.1.2.2.2.2.2.2.2.2.2.2.2.2.2.2.2.2.2.2.2.2.2.2.2.2.2.2.2.2.2.2.2.2.2.2.2.2.2.2.2.2.2.2.2.2.2.2.2.2.2.2.2.2.2.2.2.2.2.2.2.2.2.2.2.2.2.2.2.2.2.2.2.2.2.2.2.2.2.2.2.2.2.2.2.2.1 v.2.1 (fun o0_0 o0_1 o0_2 o0_3 o0_4 => K (.normal ⟨[(.iv (.int .i64) o0_0), U, U, U, U, U, (.lp 0 [] 0), U, U, (.iv (.int .i64) o0_1), U, U, U, U, (.iv .bool o0_2), (.iv (.int .u64) o0_3), U, U, U, U, U, U, U, U, U, U, U, U, U, U, U, U, U, U, U, U, U, U, U, U, U, U, U, U, U, U, U, U, U, U, U, U, U, U, U, U, U, U, U, U, U, U, U, U, U, U, U, U, U, U, U, U, U, U, U, U, U, U, U, U, U, U, U, U, U, U, U, U, U, U, U, U, U, U, U, U, U, U, U, U, U, U, U, U, U, U, U, U, U, U, U, U], [(.box 111 (.iv (.pair (.int .i64) (.pair (.int .i64) (.pair (.int .i64) (.pair (.int .i64) .unit)))) o0_4) false)]⟩))
noncomputable def q'cw (N : Nat) : Piece := (mkPiece 5574657 p'cw (g'cw N))
noncomputable def q'cx (N : Nat) : Piece := (mkPiece 285544449 p'cx (g'cx N))
noncomputable def q'cy (N : Nat) : Piece := (mkPiece 491064550143183380516438103792671094604394676883457 p'cy (g'cy N N))
noncomputable def i'cz (N : Nat) : Fi := { loans := 0, owns := true, results := [.tmp 4, .tmp 5], rtys := [3, 4], blks := [(0, q'cy N)], regs := [(7, q'cw N), (12, q'cx N)], masks := [(0, 1342443521)] }
noncomputable def b'cz : Code := match Tryz.f95.body with | some c => c | none => .skip
theorem e'cw (v : p'cw.V) (K : KO α) : runSeq env (ct81 N) (i'cz N) 5574657 (.seq (codeAt b'cz [1, 1, 1, 1, 1, 1, 0, 0]) (codeAt b'cz [1, 1, 1, 1, 1, 1, 0, 1])) (p'cw.mk' v) K = g'cw N v K := Eq.trans (b := z'cw N @impl_truncated_J7.b v K) (by kernel_rfl) (by unfold g'cw; rw [impl_truncated_J7.eq])
theorem o'cw (N : Nat) : PieceOK gd P (i'cz N) (.seq (codeAt b'cz [1, 1, 1, 1, 1, 1, 0, 0]) (codeAt b'cz [1, 1, 1, 1, 1, 1, 0, 1])) (mkPiece 5574657 p'cw (g'cw N)) :=
  piece_seq hE hP (hct81 N) (AllOK.of (F := i'cz N) (l := []) (by kernel_rfl) .nil) (AllOK.of (F := i'cz N) (l := []) (by kernel_rfl) .nil) (e'cw N)
theorem oq'cw (N : Nat) : PieceOK gd P (i'cz N) (.seq (codeAt b'cz [1, 1, 1, 1, 1, 1, 0, 0]) (codeAt b'cz [1, 1, 1, 1, 1, 1, 0, 1])) (q'cw N) := (o'cw N)
theorem e'cx (v : p'cx.V) (K : KO α) : runSeq env (ct81 N) (i'cz N) 285478913 (.seq (codeAt b'cz [1, 1, 1, 1, 1, 1, 1, 1, 1, 0, 0]) (codeAt b'cz [1, 1, 1, 1, 1, 1, 1, 1, 1, 0, 1])) (p'cx.mk' v) K = g'cx N v K := Eq.trans (b := z'cx N @impl_truncated_J12.b v K) (by kernel_rfl) (by unfold g'cx; rw [impl_truncated_J12.eq])
theorem o'cx (N : Nat) : PieceOK gd P (i'cz N) (.seq (codeAt b'cz [1, 1, 1, 1, 1, 1, 1, 1, 1, 0, 0]) (codeAt b'cz [1, 1, 1, 1, 1, 1, 1, 1, 1, 0, 1])) (mkPiece 285544449 p'cx (g'cx N)) :=
  piece_seq hE hP (hct81 N) (AllOK.of (F := i'cz N) (l := []) (by kernel_rfl) .nil) (AllOK.of (F := i'cz N) (l := []) (by kernel_rfl) .nil) (e'cx N)
theorem oq'cx (N : Nat) : PieceOK gd P (i'cz N) (.seq (codeAt b'cz [1, 1, 1, 1, 1, 1, 1, 1, 1, 0, 0]) (codeAt b'cz [1, 1, 1, 1, 1, 1, 1, 1, 1, 0, 1])) (q'cx N) := (o'cx N)
theorem e'cy (n : Nat) (v : p'cy.V) (K : KO α) : runRound env (ct81 N) (i'cz N) 491064550143183380516438103792671094604394676883457 (mkPiece 491064550143183380516438103792671094604394676883457 p'cy (g'cy N n)).run (.block 0 (.loop (codeAt b'cz [1, 1, 1, 1, 1, 1, 1, 1, 1, 1, 1, 0, 1, 0, 0]))) (p'cy.mk' v) K = g'cy N (n + 1) v K := Eq.trans (b := impl_truncated_L0r N (fun y0 y1 y2 y3 y4 y5 y6 y7 => impl_truncated_L0 N n y0 y1 y2 y3 y4 y5 y6 y7 (fun o0_0 o0_1 o0_2 o0_3 o0_4 => K (.normal ⟨[(.iv (.int .i64) o0_0), U, U, U, U, U, (.lp 0 [] 0), U, U, (.iv (.int .i64) o0_1), U, U, U, U, (.iv .bool o0_2), (.iv (.int .u64) o0_3), U, U, U, U, U, U, U, U, U, U, U, U, U, U, U, U, U, U, U, U, U, U, U, U, U, U, U, U, U, U, U, U, U, U, U, U, U, U, U, U, U, U, U, U, U, U, U, U, U, U, U, U, U, U, U, U, U, U, U, U, U, U, U, U, U, U, U, U, U, U, U, U, U, U, U, U, U, U, U, U, U, U, U, U, U, U, U, U, U, U, U, U, U, U, U, U], [(.box 111 (.iv (.pair (.int .i64) (.pair (.int .i64) (.pair (.int .i64) (.pair (.int .i64) .unit)))) o0_4) false)]⟩))) (fun o0_0 o0_1 o0_2 o0_3 o0_4 => K (.normal ⟨[(.iv (.int .i64) o0_0), U, U, U, U, U, (.lp 0 [] 0), U, U, (.iv (.int .i64) o0_1), U, U, U, U, (.iv .bool o0_2), (.iv (.int .u64) o0_3), U, U, U, U, U, U, U, U, U, U, U, U, U, U, U, U, U, U, U, U, U, U, U, U, U, U, U, U, U, U, U, U, U, U, U, U, U, U, U, U, U, U, U, U, U, U, U, U, U, U, U, U, U, U, U, U, U, U, U, U, U, U, U, U, U, U, U, U, U, U, U, U, U, U, U, U, U, U, U, U, U, U, U, U, U, U, U, U, U, U, U, U, U, U, U, U], [(.box 111 (.iv (.pair (.int .i64) (.pair (.int .i64) (.pair (.int .i64) (.pair (.int .i64) .unit)))) o0_4) false)]⟩)) v.1.1 v.1.2.2.2.2.2.2.2.2.2.1 v.1.2.2.2.2.2.2.2.2.2.2.2.2.2.2.1 v.1.2.2.2.2.2.2.2.2.2.2.2.2.2.2.2.1 v.1.2.2.2.2.2.2.2.2.2.2.2.2.2.2.2.2.2.2.2.2.2.2.2.2.2.2.2.2.2.2.2.2.2.2.2.2.2.2.2.2.2.2.2.2.2.2.2.2.2.2.2.2.2.2.2.2.2.2.2.2.2.2.2.2.2.2.2.2.2.2.2.2.2.2.2.2.2.2.2.2.2.2.1 v.1.2.2.2.2.2.2.2.2.2.2.2.2.2.2.2.2.2.2.2.2.2.2.2.2.2.2.2.2.2.2.2.2.2.2.2.2.2.2.2.2.2.2.2.2.2.2.2.2.2.2.2.2.2.2.2.2.2.2.2.2.2.2.2.2.2.2.2.2.2.2.2.2.2.2.2.2.2.2.2.2.2.2.2.1 v.1.2.2.2.2.2.2.2.2.2.2.2.2.2.2.2.2.2.2.2.2.2.2.2.2.2.2.2.2.2.2.2.2.2.2.2.2.2.2.2.2.2.2.2.2.2.2.2.2.2.2.2.2.2.2.2.2.2.2.2.2.2.2.2.2.2.2.2.2.2.2.2.2.2.2.2.2.2.2.2.2.2.2.2.2.1 v.2.1) (by kernel_rfl) (by unfold g'cy; rw [impl_truncated_L0.succ])
theorem o'cy (N : Nat) : PieceOK gd P (i'cz N) (.block 0 (.loop (codeAt b'cz [1, 1, 1, 1, 1, 1, 1, 1, 1, 1, 1, 0, 1, 0, 0]))) (mkPiece 491064550143183380516438103792671094604394676883457 p'cy (g'cy N N)) :=
  piece_loop hE hP (hct81 N) (AllOK.of (F := i'cz N) (l := []) (by kernel_rfl) .nil) (fun n {_} => g'cy N n) (fun _ _ => by unfold g'cy; rw [impl_truncated_L0.zero]) (fun n {_} v K => e'cy N n v K) N
theorem oq'cy (N : Nat) : PieceOK gd P (i'cz N) (.block 0 (.loop (codeAt b'cz [1, 1, 1, 1, 1, 1, 1, 1, 1, 1, 1, 0, 1, 0, 0]))) (q'cy N) := (o'cy N)
noncomputable def p'cz : Pt := ⟨[(.i (.int .i64)), (.i (.pair .bool (.pair (.sl (.int .i64)) (.pair (.sl (.int .i64)) .unit))))], []⟩
noncomputable def z'cz (F : type_of% @impl_truncated) (v : p'cz.V) (K : KF α) : Option α := F N v.1.1 v.1.2.1 (fun o0_0 o0_1 => K (.tuple [(.iv (.int .i64) o0_0), (.iv .bool o0_1)]) [])
noncomputable def g'cz (v : p'cz.V) (K : KF α) : Option α := z'cz N @impl_truncated v K
theorem e'cz (v : p'cz.V) (K : KF α) : runFn env (ct81 N) (i'cz N) Tryz.f95 (SP.mkL p'cz.slots v.1) (BP.mkL p'cz.store v.2) K = g'cz N v K := Eq.trans (b := z'cz N @impl_truncated.b v K) (by kernel_rfl) (by unfold g'cz; rw [impl_truncated.eq])
theorem o'cz (N : Nat) : CalleeOK gd P 95 (mkCallee false p'cz (g'cz N)) :=
  callee_ok fun v K h => fn_snd hE hP (hct81 N) Tryz.func95 (by kernel_rfl) (body := b'cz) (by kernel_rfl) (by kernel_rfl) (AllOK.of (F := i'cz N) (l := [((.seq (codeAt b'cz [1, 1, 1, 1, 1, 1, 0, 0]) (codeAt b'cz [1, 1, 1, 1, 1, 1, 0, 1])), q'cw N), ((.seq (codeAt b'cz [1, 1, 1, 1, 1, 1, 1, 1, 1, 0, 0]) (codeAt b'cz [1, 1, 1, 1, 1, 1, 1, 1, 1, 0, 1])), q'cx N), ((.block 0 (.loop (codeAt b'cz [1, 1, 1, 1, 1, 1, 1, 1, 1, 1, 1, 0, 1, 0, 0]))), q'cy N)]) (by kernel_rfl) (.cons (oq'cw N) (.cons (oq'cx N) (.cons (oq'cy N) .nil)))) (loans := BP.mkL p'cz.store v.2) rfl ((e'cz N v K).trans h)
noncomputable def ct82 (N : Nat) : CT := (95, (mkCallee false p'cz (g'cz N))) :: ct81 N
theorem hct82 (N : Nat) : CTOK gd P (ct82 N) := .cons (o'cz N) (hct81 N)

noncomputable def p'cA : Pt := ⟨[.u, .u, .u, (.p 0 [] 0), .u, .u, (.i (.int .i64)), (.i .bool), (.i (.int .i64)), .u, .u, .u, .u, .u, .u, .u, .u, .u, .u, .u, .u, .u, .u, .u, .u, .u, .u, .u], [(.box 25 (.i (.pair .bool (.pair (.sl (.int .i64)) (.pair (.sl (.int .i64)) .unit)))) false)]⟩
noncomputable def z'cA (F : type_of% @impl_around_J3) (v : p'cA.V) (K : KO α) : Option α := F N v.1.2.2.2.2.2.2.1 v.1.2.2.2.2.2.2.2.1 v.1.2.2.2.2.2.2.2.2.1 v.2.1 (fun o0_0 o0_1 o0_2 => K (.normal ⟨[U, U, U, (.lp 0 [] 0), U, U, (.iv (.int .i64) o0_0), U, (.iv (.int .i64) o0_1), U, U, U, U, U, U, U, U, U, U, U, U, U, U, U, U, U, U, U], [(.box 25 (.iv (.pair .bool (.pair (.sl (.int .i64)) (.pair (.sl (.int .i64)) .unit))) o0_2) false)]⟩))
noncomputable def g'cA (v : p'cA.V) (K : KO α) : Option α := z'cA N @impl_around_J3 v K
noncomputable def q'cA (N : Nat) : Piece := (mkPiece 86080 p'cA (g'cA N))
noncomputable def i'cB (N : Nat) : Fi := { loans := 0, owns := true, results := [.tmp 4, .tmp 5], rtys := [3, 3], blks := [], regs := [(3, q'cA N)], masks := [] }
noncomputable def b'cB : Code := match Tryz.f57.body with | some c => c | none => .skip
theorem e'cA (v : p'cA.V) (K : KO α) : runSeq env (ct82 N) (i'cB N) 69696 (.seq (codeAt b'cB [1, 1, 1, 0, 0]) (codeAt b'cB [1, 1, 1, 0, 1])) (p'cA.mk' v) K = g'cA N v K := Eq.trans (b := z'cA N @impl_around_J3.b v K) (by kernel_rfl) (by unfold g'cA; rw [impl_around_J3.eq])
theorem o'cA (N : Nat) : PieceOK gd P (i'cB N) (.seq (codeAt b'cB [1, 1, 1, 0, 0]) (codeAt b'cB [1, 1, 1, 0, 1])) (mkPiece 86080 p'cA (g'cA N)) :=
  piece_seq hE hP (hct82 N) (AllOK.of (F := i'cB N) (l := []) (by kernel_rfl) .nil) (AllOK.of (F := i'cB N) (l := []) (by kernel_rfl) .nil) (e'cA N)
theorem oq'cA (N : Nat) : PieceOK gd P (i'cB N) (.seq (codeAt b'cB [1, 1, 1, 0, 0]) (codeAt b'cB [1, 1, 1, 0, 1])) (q'cA N) := (o'cA N)
noncomputable def p'cB : Pt := ⟨[(.i (.int .i64)), (.i (.pair .bool (.pair (.sl (.int .i64)) (.pair (.sl (.int .i64)) .unit))))], []⟩
noncomputable def z'cB (F : type_of% @impl_around) (v : p'cB.V) (K : KF α) : Option α := F N v.1.1 v.1.2.1 (fun o0_0 o0_1 => K (.tuple [(.iv (.int .i64) o0_0), (.iv (.int .i64) o0_1)]) [])
noncomputable def g'cB (v : p'cB.V) (K : KF α) : Option α := z'cB N @impl_around v K
theorem e'cB (v : p'cB.V) (K : KF α) : runFn env (ct82 N) (i'cB N) Tryz.f57 (SP.mkL p'cB.slots v.1) (BP.mkL p'cB.store v.2) K = g'cB N v K := Eq.trans (b := z'cB N @impl_around.b v K) (by kernel_rfl) (by unfold g'cB; rw [impl_around.eq])
theorem o'cB (N : Nat) : CalleeOK gd P 57 (mkCallee false p'cB (g'cB N)) :=
  callee_ok fun v K h => fn_snd hE hP (hct82 N) Tryz.func57 (by kernel_rfl) (body := b'cB) (by kernel_rfl) (by kernel_rfl) (AllOK.of (F := i'cB N) (l := [((.seq (codeAt b'cB [1, 1, 1, 0, 0]) (codeAt b'cB [1, 1, 1, 0, 1])), q'cA N)]) (by kernel_rfl) (.cons (oq'cA N) .nil)) (loans := BP.mkL p'cB.store v.2) rfl ((e'cB N v K).trans h)
noncomputable def ct83 (N : Nat) : CT := (57, (mkCallee false p'cB (g'cB N))) :: ct82 N
theorem hct83 (N : Nat) : CTOK gd P (ct83 N) := .cons (o'cB N) (hct82 N)

noncomputable def i'cC (N : Nat) : Fi := { loans := 0, owns := true, results := [.cell 4 35, .tmp 5], rtys := [35, 4], blks := [], regs := [], masks := [] }
noncomputable def b'cC : Code := match Tryz.f20.body with | some c => c | none => .skip
noncomputable def p'cC : Pt := ⟨[(.i (.int .i64)), (.i (.pair .bool (.pair (.sl (.int .i64)) (.pair (.sl (.int .i64)) .unit))))], []⟩
noncomputable def z'cC (F : type_of% @impl_PairFrac) (v : p'cC.V) (K : KF α) : Option α := F N v.1.1 v.1.2.1 (fun o0_0 o0_1 => K (.tuple [(.iv (.pair (.int .i64) (.pair (.int .i64) .unit)) o0_0), (.iv .bool o0_1)]) [])
noncomputable def g'cC (v : p'cC.V) (K : KF α) : Option α := z'cC N @impl_PairFrac v K
theorem e'cC (v : p'cC.V) (K : KF α) : runFn env (ct83 N) (i'cC N) Tryz.f20 (SP.mkL p'cC.slots v.1) (BP.mkL p'cC.store v.2) K = g'cC N v K := Eq.trans (b := z'cC N @impl_PairFrac.b v K) (by kernel_rfl) (by unfold g'cC; rw [impl_PairFrac.eq])
theorem o'cC (N : Nat) : CalleeOK gd P 20 (mkCallee false p'cC (g'cC N)) :=
  callee_ok fun v K h => fn_snd hE hP (hct83 N) Tryz.func20 (by kernel_rfl) (body := b'cC) (by kernel_rfl) (by kernel_rfl) (AllOK.of (F := i'cC N) (l := []) (by kernel_rfl) .nil) (loans := BP.mkL p'cC.store v.2) rfl ((e'cC N v K).trans h)
noncomputable def ct84 (N : Nat) : CT := (20, (mkCallee false p'cC (g'cC N))) :: ct83 N
theorem hct84 (N : Nat) : CTOK gd P (ct84 N) := .cons (o'cC N) (hct83 N)

noncomputable def i'cD (N : Nat) : Fi := { loans := 0, owns := true, results := [.cell 4 35, .tmp 5], rtys := [35, 4], blks := [], regs := [], masks := [] }
noncomputable def b'cD : Code := match Tryz.f14.body with | some c => c | none => .skip
noncomputable def p'cD : Pt := ⟨[(.i (.int .i64)), (.i .str)], []⟩
noncomputable def z'cD (F : type_of% @impl_PairDec) (v : p'cD.V) (K : KF α) : Option α := F N v.1.1 v.1.2.1 (fun o0_0 o0_1 => K (.tuple [(.iv (.pair (.int .i64) (.pair (.int .i64) .unit)) o0_0), (.iv .bool o0_1)]) [])
noncomputable def g'cD (v : p'cD.V) (K : KF α) : Option α := z'cD N @impl_PairDec v K
theorem e'cD (v : p'cD.V) (K : KF α) : runFn env (ct84 N) (i'cD N) Tryz.f14 (SP.mkL p'cD.slots v.1) (BP.mkL p'cD.store v.2) K = g'cD N v K := Eq.trans (b := z'cD N @impl_PairDec.b v K) (by kernel_rfl) (by unfold g'cD; rw [impl_PairDec.eq])
theorem o'cD (N : Nat) : CalleeOK gd P 14 (mkCallee false p'cD (g'cD N)) :=
  callee_ok fun v K h => fn_snd hE hP (hct84 N) Tryz.func14 (by kernel_rfl) (body := b'cD) (by kernel_rfl) (by kernel_rfl) (AllOK.of (F := i'cD N) (l := []) (by kernel_rfl) .nil) (loans := BP.mkL p'cD.store v.2) rfl ((e'cD N v K).trans h)
noncomputable def ct85 (N : Nat) : CT := (14, (mkCallee false p'cD (g'cD N))) :: ct84 N
theorem hct85 (N : Nat) : CTOK gd P (ct85 N) := .cons (o'cD N) (hct84 N)

noncomputable def i'cE (N : Nat) : Fi := { loans := 0, owns := true, results := [.tmp 4], rtys := [4], blks := [], regs := [], masks := [] }
noncomputable def b'cE : Code := match Tryz.f15.body with | some c => c | none => .skip
noncomputable def p'cE : Pt := ⟨[(.i (.pair (.int .i64) (.pair (.int .i64) .unit))), (.i (.pair (.int .i64) (.pair (.int .i64) .unit)))], []⟩
noncomputable def z'cE (F : type_of% @laws_eqPair) (v : p'cE.V) (K : KF α) : Option α := F N v.1.1 v.1.2.1 (fun o0_0 => K (.iv .bool o0_0) [])
noncomputable def g'cE (v : p'cE.V) (K : KF α) : Option α := z'cE N @laws_eqPair v K
theorem e'cE (v : p'cE.V) (K : KF α) : runFn env (ct85 N) (i'cE N) Tryz.f15 (SP.mkL p'cE.slots v.1) (BP.mkL p'cE.store v.2) K = g'cE N v K := Eq.trans (b := z'cE N @laws_eqPair.b v K) (by kernel_rfl) (by unfold g'cE; rw [laws_eqPair.eq])
theorem o'cE (N : Nat) : CalleeOK gd P 15 (mkCallee false p'cE (g'cE N)) :=
  callee_ok fun v K h => fn_snd hE hP (hct85 N) Tryz.func15 (by kernel_rfl) (body := b'cE) (by kernel_rfl) (by kernel_rfl) (AllOK.of (F := i'cE N) (l := []) (by kernel_rfl) .nil) (loans := BP.mkL p'cE.store v.2) rfl ((e'cE N v K).trans h)
noncomputable def ct86 (N : Nat) : CT := (15, (mkCallee false p'cE (g'cE N))) :: ct85 N
theorem hct86 (N : Nat) : CTOK gd P (ct86 N) := .cons (o'cE N) (hct85 N)

noncomputable def i'cF (N : Nat) : Fi := { loans := 0, owns := true, results := [.tmp 4], rtys := [4], blks := [], regs := [], masks := [] }
noncomputable def b'cF : Code := match Tryz.f4.body with | some c => c | none => .skip
noncomputable def plaws_FnExactPairDec : Pt := ⟨[(.i (.int .i64)), (.i .str)], []⟩
noncomputable def z'cF (F : type_of% @laws_FnExactPairDec) (v : plaws_FnExactPairDec.V) (K : KF α) : Option α := F N v.1.1 v.1.2.1 (fun o0_0 => K (.iv .bool o0_0) [])
noncomputable def glaws_FnExactPairDec (v : plaws_FnExactPairDec.V) (K : KF α) : Option α := z'cF N @laws_FnExactPairDec v K
theorem e'cF (v : plaws_FnExactPairDec.V) (K : KF α) : runFn env (ct86 N) (i'cF N) Tryz.f4 (SP.mkL plaws_FnExactPairDec.slots v.1) (BP.mkL plaws_FnExactPairDec.store v.2) K = glaws_FnExactPairDec N v K := Eq.trans (b := z'cF N @laws_FnExactPairDec.b v K) (by kernel_rfl) (by unfold glaws_FnExactPairDec; rw [laws_FnExactPairDec.eq])
theorem olaws_FnExactPairDec (N : Nat) : CalleeOK gd P 4 (mkCallee false plaws_FnExactPairDec (glaws_FnExactPairDec N)) :=
  callee_ok fun v K h => fn_snd hE hP (hct86 N) Tryz.func4 (by kernel_rfl) (body := b'cF) (by kernel_rfl) (by kernel_rfl) (AllOK.of (F := i'cF N) (l := []) (by kernel_rfl) .nil) (loans := BP.mkL plaws_FnExactPairDec.store v.2) rfl ((e'cF N v K).trans h)
noncomputable def ct87 (N : Nat) : CT := (4, (mkCallee false plaws_FnExactPairDec (glaws_FnExactPairDec N))) :: ct86 N
theorem hct87 (N : Nat) : CTOK gd P (ct87 N) := .cons (olaws_FnExactPairDec N) (hct86 N)

end
end
end Go.Proofs.YtnhbcpmmdblkjaaGreatDoorAm
