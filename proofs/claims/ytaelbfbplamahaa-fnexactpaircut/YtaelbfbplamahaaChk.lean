/-
  The functions are what the program computes. Printed by amp.py.
-/
import Derived.Test.YtaelbfbplamahaaFns
import Derived.Test.YtaelbfbplamahaaProg
namespace Go.Proofs.YtaelbfbplamahaaAm
open Go
noncomputable section
set_option linter.unusedVariables false
set_option linter.unusedSimpArgs false
noncomputable abbrev P : Program := Go.Proofs.Try.prog
def env : Env where
  sl := []
  ty := [(3, (.int .i64)), (4, .bool), (23, (.pair (.int .i64) (.pair (.int .i64) .unit))), (24, (.pair (.int .i64) (.pair (.int .i64) .unit))), (35, (.int .u64)), (84, (.pair (.int .i64) (.pair (.int .i64) (.pair (.int .i64) (.pair (.int .i64) .unit)))))]
  lay := [(3, 1, false), (23, 2, true), (24, 2, true), (84, 4, true)]
  fo := [(23, [0, 1]), (24, [0, 1]), (84, [0, 1, 2, 3])]
  lim := []
  eqs := []
theorem hE : EnvOK P env := envB_ok (by kernel_rfl) (eqs_ok (by kernel_rfl))
theorem hP : P.follows .mixedOrders = true := by kernel_rfl

section
variable {gd : Gd}
noncomputable def ct0 (N : Nat) : CT := []
theorem hct0 (N : Nat) : CTOK gd P (ct0 N) := .nil
noncomputable def ilaws_toPair (N : Nat) : Fi := { loans := 0, owns := true, results := [.cell 2 24], rtys := [24], blks := [], regs := [], masks := [] }
noncomputable def blaws_toPair : Code := match Try.f15.body with | some c => c | none => .skip
noncomputable def plaws_toPair : Pt := ⟨[(.i (.pair (.int .i64) (.pair (.int .i64) .unit)))], []⟩
noncomputable def glaws_toPair (N : Nat) {α : Type} (v : plaws_toPair.V) (K : HV → List Blk → Option α) : Option α := laws_toPair N v.1.1 (fun o0_0 => K (.iv (.pair (.int .i64) (.pair (.int .i64) .unit)) o0_0) [])
theorem elaws_toPair.b (N : Nat) {α : Type} (v : plaws_toPair.V) (K : HV → List Blk → Option α) : runFn env (ct0 N) (ilaws_toPair N) Try.f15 (SP.mkL plaws_toPair.slots v.1) (BP.mkL plaws_toPair.store v.2) K = laws_toPair.b N v.1.1 (fun o0_0 => K (.iv (.pair (.int .i64) (.pair (.int .i64) .unit)) o0_0) []) := by kernel_rfl
theorem elaws_toPair (N : Nat) {α : Type} (v : plaws_toPair.V) (K : HV → List Blk → Option α) : runFn env (ct0 N) (ilaws_toPair N) Try.f15 (SP.mkL plaws_toPair.slots v.1) (BP.mkL plaws_toPair.store v.2) K = glaws_toPair N v K := (elaws_toPair.b N v K).trans (by unfold glaws_toPair; rw [laws_toPair.eq])
theorem olaws_toPair (N : Nat) : CalleeOK gd P 15 (mkCallee false plaws_toPair (glaws_toPair N)) :=
  callee_ok fun v K h => fn_snd hE hP (hct0 N) Try.func15 (by kernel_rfl) (body := blaws_toPair) (by kernel_rfl) (by kernel_rfl) (AllOK.of (F := ilaws_toPair N) (l := []) (by kernel_rfl) .nil) (loans := BP.mkL plaws_toPair.store v.2) rfl ((elaws_toPair N v K).trans h)
noncomputable def ct1 (N : Nat) : CT := (15, (mkCallee false plaws_toPair (glaws_toPair N))) :: ct0 N
theorem hct1 (N : Nat) : CTOK gd P (ct1 N) := .cons (olaws_toPair N) (hct0 N)

noncomputable def ispec_BitTop (N : Nat) : Fi := { loans := 0, owns := false, results := [.tmp 2], rtys := [3], blks := [], regs := [], masks := [] }
noncomputable def bspec_BitTop : Code := match Try.f75.body with | some c => c | none => .skip
noncomputable def pspec_BitTop : Pt := ⟨[(.i (.int .i64))], []⟩
noncomputable def gspec_BitTop (N : Nat) {α : Type} (v : pspec_BitTop.V) (K : HV → List Blk → Option α) : Option α := spec_BitTop N v.1.1 (fun o0_0 => K (.iv (.int .i64) o0_0) [])
theorem espec_BitTop.b (N : Nat) {α : Type} (v : pspec_BitTop.V) (K : HV → List Blk → Option α) : runFn env (ct1 N) (ispec_BitTop N) Try.f75 (SP.mkL pspec_BitTop.slots v.1) (BP.mkL pspec_BitTop.store v.2) K = spec_BitTop.b N v.1.1 (fun o0_0 => K (.iv (.int .i64) o0_0) []) := by kernel_rfl
theorem espec_BitTop (N : Nat) {α : Type} (v : pspec_BitTop.V) (K : HV → List Blk → Option α) : runFn env (ct1 N) (ispec_BitTop N) Try.f75 (SP.mkL pspec_BitTop.slots v.1) (BP.mkL pspec_BitTop.store v.2) K = gspec_BitTop N v K := (espec_BitTop.b N v K).trans (by unfold gspec_BitTop; rw [spec_BitTop.eq])
theorem ospec_BitTop (N : Nat) : CalleeOK gd P 75 (mkCallee false pspec_BitTop (gspec_BitTop N)) :=
  callee_ok fun v K h => fn_snd hE hP (hct1 N) Try.func75 (by kernel_rfl) (body := bspec_BitTop) (by kernel_rfl) (by kernel_rfl) (AllOK.of (F := ispec_BitTop N) (l := []) (by kernel_rfl) .nil) (loans := BP.mkL pspec_BitTop.store v.2) rfl ((espec_BitTop N v K).trans h)
noncomputable def ct2 (N : Nat) : CT := (75, (mkCallee false pspec_BitTop (gspec_BitTop N))) :: ct1 N
theorem hct2 (N : Nat) : CTOK gd P (ct2 N) := .cons (ospec_BitTop N) (hct1 N)

noncomputable def ispec_l1Width (N : Nat) : Fi := { loans := 0, owns := false, results := [.tmp 2], rtys := [4], blks := [], regs := [], masks := [] }
noncomputable def bspec_l1Width : Code := match Try.f87.body with | some c => c | none => .skip
noncomputable def pspec_l1Width : Pt := ⟨[(.i (.int .i64))], []⟩
noncomputable def gspec_l1Width (N : Nat) {α : Type} (v : pspec_l1Width.V) (K : HV → List Blk → Option α) : Option α := spec_l1Width N v.1.1 (fun o0_0 => K (.iv .bool o0_0) [])
theorem espec_l1Width.b (N : Nat) {α : Type} (v : pspec_l1Width.V) (K : HV → List Blk → Option α) : runFn env (ct2 N) (ispec_l1Width N) Try.f87 (SP.mkL pspec_l1Width.slots v.1) (BP.mkL pspec_l1Width.store v.2) K = spec_l1Width.b N v.1.1 (fun o0_0 => K (.iv .bool o0_0) []) := by kernel_rfl
theorem espec_l1Width (N : Nat) {α : Type} (v : pspec_l1Width.V) (K : HV → List Blk → Option α) : runFn env (ct2 N) (ispec_l1Width N) Try.f87 (SP.mkL pspec_l1Width.slots v.1) (BP.mkL pspec_l1Width.store v.2) K = gspec_l1Width N v K := (espec_l1Width.b N v K).trans (by unfold gspec_l1Width; rw [spec_l1Width.eq])
theorem ospec_l1Width (N : Nat) : CalleeOK gd P 87 (mkCallee false pspec_l1Width (gspec_l1Width N)) :=
  callee_ok fun v K h => fn_snd hE hP (hct2 N) Try.func87 (by kernel_rfl) (body := bspec_l1Width) (by kernel_rfl) (by kernel_rfl) (AllOK.of (F := ispec_l1Width N) (l := []) (by kernel_rfl) .nil) (loans := BP.mkL pspec_l1Width.store v.2) rfl ((espec_l1Width N v K).trans h)
noncomputable def ct3 (N : Nat) : CT := (87, (mkCallee false pspec_l1Width (gspec_l1Width N))) :: ct2 N
theorem hct3 (N : Nat) : CTOK gd P (ct3 N) := .cons (ospec_l1Width N) (hct2 N)

noncomputable def ispec_BitOk (N : Nat) : Fi := { loans := 0, owns := false, results := [.tmp 4], rtys := [4], blks := [], regs := [], masks := [] }
noncomputable def bspec_BitOk : Code := match Try.f76.body with | some c => c | none => .skip
noncomputable def pspec_BitOk : Pt := ⟨[(.i (.int .i64)), (.i (.int .i64))], []⟩
noncomputable def gspec_BitOk (N : Nat) {α : Type} (v : pspec_BitOk.V) (K : HV → List Blk → Option α) : Option α := spec_BitOk N v.1.1 v.1.2.1 (fun o0_0 => K (.iv .bool o0_0) [])
theorem espec_BitOk.b (N : Nat) {α : Type} (v : pspec_BitOk.V) (K : HV → List Blk → Option α) : runFn env (ct3 N) (ispec_BitOk N) Try.f76 (SP.mkL pspec_BitOk.slots v.1) (BP.mkL pspec_BitOk.store v.2) K = spec_BitOk.b N v.1.1 v.1.2.1 (fun o0_0 => K (.iv .bool o0_0) []) := by kernel_rfl
theorem espec_BitOk (N : Nat) {α : Type} (v : pspec_BitOk.V) (K : HV → List Blk → Option α) : runFn env (ct3 N) (ispec_BitOk N) Try.f76 (SP.mkL pspec_BitOk.slots v.1) (BP.mkL pspec_BitOk.store v.2) K = gspec_BitOk N v K := (espec_BitOk.b N v K).trans (by unfold gspec_BitOk; rw [spec_BitOk.eq])
theorem ospec_BitOk (N : Nat) : CalleeOK gd P 76 (mkCallee false pspec_BitOk (gspec_BitOk N)) :=
  callee_ok fun v K h => fn_snd hE hP (hct3 N) Try.func76 (by kernel_rfl) (body := bspec_BitOk) (by kernel_rfl) (by kernel_rfl) (AllOK.of (F := ispec_BitOk N) (l := []) (by kernel_rfl) .nil) (loans := BP.mkL pspec_BitOk.store v.2) rfl ((espec_BitOk N v K).trans h)
noncomputable def ct4 (N : Nat) : CT := (76, (mkCallee false pspec_BitOk (gspec_BitOk N))) :: ct3 N
theorem hct4 (N : Nat) : CTOK gd P (ct4 N) := .cons (ospec_BitOk N) (hct3 N)

noncomputable def ispec_PairOk (N : Nat) : Fi := { loans := 0, owns := false, results := [.tmp 4], rtys := [4], blks := [], regs := [], masks := [] }
noncomputable def bspec_PairOk : Code := match Try.f45.body with | some c => c | none => .skip
noncomputable def pspec_PairOk : Pt := ⟨[(.i (.int .i64)), (.i (.pair (.int .i64) (.pair (.int .i64) .unit)))], []⟩
noncomputable def gspec_PairOk (N : Nat) {α : Type} (v : pspec_PairOk.V) (K : HV → List Blk → Option α) : Option α := spec_PairOk N v.1.1 v.1.2.1 (fun o0_0 => K (.iv .bool o0_0) [])
theorem espec_PairOk.b (N : Nat) {α : Type} (v : pspec_PairOk.V) (K : HV → List Blk → Option α) : runFn env (ct4 N) (ispec_PairOk N) Try.f45 (SP.mkL pspec_PairOk.slots v.1) (BP.mkL pspec_PairOk.store v.2) K = spec_PairOk.b N v.1.1 v.1.2.1 (fun o0_0 => K (.iv .bool o0_0) []) := by kernel_rfl
theorem espec_PairOk (N : Nat) {α : Type} (v : pspec_PairOk.V) (K : HV → List Blk → Option α) : runFn env (ct4 N) (ispec_PairOk N) Try.f45 (SP.mkL pspec_PairOk.slots v.1) (BP.mkL pspec_PairOk.store v.2) K = gspec_PairOk N v K := (espec_PairOk.b N v K).trans (by unfold gspec_PairOk; rw [spec_PairOk.eq])
theorem ospec_PairOk (N : Nat) : CalleeOK gd P 45 (mkCallee false pspec_PairOk (gspec_PairOk N)) :=
  callee_ok fun v K h => fn_snd hE hP (hct4 N) Try.func45 (by kernel_rfl) (body := bspec_PairOk) (by kernel_rfl) (by kernel_rfl) (AllOK.of (F := ispec_PairOk N) (l := []) (by kernel_rfl) .nil) (loans := BP.mkL pspec_PairOk.store v.2) rfl ((espec_PairOk N v K).trans h)
noncomputable def ct5 (N : Nat) : CT := (45, (mkCallee false pspec_PairOk (gspec_PairOk N))) :: ct4 N
theorem hct5 (N : Nat) : CTOK gd P (ct5 N) := .cons (ospec_PairOk N) (hct4 N)

noncomputable def ispec_BitGap (N : Nat) : Fi := { loans := 0, owns := false, results := [.tmp 4], rtys := [35], blks := [], regs := [], masks := [] }
noncomputable def bspec_BitGap : Code := match Try.f21.body with | some c => c | none => .skip
noncomputable def pspec_BitGap : Pt := ⟨[(.i (.int .i64)), (.i (.int .i64))], []⟩
noncomputable def gspec_BitGap (N : Nat) {α : Type} (v : pspec_BitGap.V) (K : HV → List Blk → Option α) : Option α := spec_BitGap N v.1.1 v.1.2.1 (fun o0_0 => K (.iv (.int .u64) o0_0) [])
theorem espec_BitGap.b (N : Nat) {α : Type} (v : pspec_BitGap.V) (K : HV → List Blk → Option α) : runFn env (ct5 N) (ispec_BitGap N) Try.f21 (SP.mkL pspec_BitGap.slots v.1) (BP.mkL pspec_BitGap.store v.2) K = spec_BitGap.b N v.1.1 v.1.2.1 (fun o0_0 => K (.iv (.int .u64) o0_0) []) := by kernel_rfl
theorem espec_BitGap (N : Nat) {α : Type} (v : pspec_BitGap.V) (K : HV → List Blk → Option α) : runFn env (ct5 N) (ispec_BitGap N) Try.f21 (SP.mkL pspec_BitGap.slots v.1) (BP.mkL pspec_BitGap.store v.2) K = gspec_BitGap N v K := (espec_BitGap.b N v K).trans (by unfold gspec_BitGap; rw [spec_BitGap.eq])
theorem ospec_BitGap (N : Nat) : CalleeOK gd P 21 (mkCallee false pspec_BitGap (gspec_BitGap N)) :=
  callee_ok fun v K h => fn_snd hE hP (hct5 N) Try.func21 (by kernel_rfl) (body := bspec_BitGap) (by kernel_rfl) (by kernel_rfl) (AllOK.of (F := ispec_BitGap N) (l := []) (by kernel_rfl) .nil) (loans := BP.mkL pspec_BitGap.store v.2) rfl ((espec_BitGap N v K).trans h)
noncomputable def ct6 (N : Nat) : CT := (21, (mkCallee false pspec_BitGap (gspec_BitGap N))) :: ct5 N
theorem hct6 (N : Nat) : CTOK gd P (ct6 N) := .cons (ospec_BitGap N) (hct5 N)

noncomputable def ispec_l3Gap (N : Nat) : Fi := { loans := 0, owns := false, results := [.tmp 2], rtys := [35], blks := [], regs := [], masks := [] }
noncomputable def bspec_l3Gap : Code := match Try.f46.body with | some c => c | none => .skip
noncomputable def pspec_l3Gap : Pt := ⟨[(.i (.pair (.int .i64) (.pair (.int .i64) .unit)))], []⟩
noncomputable def gspec_l3Gap (N : Nat) {α : Type} (v : pspec_l3Gap.V) (K : HV → List Blk → Option α) : Option α := spec_l3Gap N v.1.1 (fun o0_0 => K (.iv (.int .u64) o0_0) [])
theorem espec_l3Gap.b (N : Nat) {α : Type} (v : pspec_l3Gap.V) (K : HV → List Blk → Option α) : runFn env (ct6 N) (ispec_l3Gap N) Try.f46 (SP.mkL pspec_l3Gap.slots v.1) (BP.mkL pspec_l3Gap.store v.2) K = spec_l3Gap.b N v.1.1 (fun o0_0 => K (.iv (.int .u64) o0_0) []) := by kernel_rfl
theorem espec_l3Gap (N : Nat) {α : Type} (v : pspec_l3Gap.V) (K : HV → List Blk → Option α) : runFn env (ct6 N) (ispec_l3Gap N) Try.f46 (SP.mkL pspec_l3Gap.slots v.1) (BP.mkL pspec_l3Gap.store v.2) K = gspec_l3Gap N v K := (espec_l3Gap.b N v K).trans (by unfold gspec_l3Gap; rw [spec_l3Gap.eq])
theorem ospec_l3Gap (N : Nat) : CalleeOK gd P 46 (mkCallee false pspec_l3Gap (gspec_l3Gap N)) :=
  callee_ok fun v K h => fn_snd hE hP (hct6 N) Try.func46 (by kernel_rfl) (body := bspec_l3Gap) (by kernel_rfl) (by kernel_rfl) (AllOK.of (F := ispec_l3Gap N) (l := []) (by kernel_rfl) .nil) (loans := BP.mkL pspec_l3Gap.store v.2) rfl ((espec_l3Gap N v K).trans h)
noncomputable def ct7 (N : Nat) : CT := (46, (mkCallee false pspec_l3Gap (gspec_l3Gap N))) :: ct6 N
theorem hct7 (N : Nat) : CTOK gd P (ct7 N) := .cons (ospec_l3Gap N) (hct6 N)

noncomputable def ispec_PairCut (N : Nat) : Fi := { loans := 0, owns := false, results := [.cell 6 24, .cell 7 24, .tmp 8], rtys := [24, 24, 4], blks := [], regs := [], masks := [] }
noncomputable def bspec_PairCut : Code := match Try.f18.body with | some c => c | none => .skip
noncomputable def pspec_PairCut : Pt := ⟨[(.i (.int .i64)), (.i (.pair (.int .i64) (.pair (.int .i64) .unit))), (.i (.pair (.int .i64) (.pair (.int .i64) .unit)))], []⟩
noncomputable def gspec_PairCut (N : Nat) {α : Type} (v : pspec_PairCut.V) (K : HV → List Blk → Option α) : Option α := spec_PairCut N v.1.1 v.1.2.1 v.1.2.2.1 (fun o0_0 o0_1 o0_2 => K (.tuple [(.iv (.pair (.int .i64) (.pair (.int .i64) .unit)) o0_0), (.iv (.pair (.int .i64) (.pair (.int .i64) .unit)) o0_1), (.iv .bool o0_2)]) [])
theorem espec_PairCut.b (N : Nat) {α : Type} (v : pspec_PairCut.V) (K : HV → List Blk → Option α) : runFn env (ct7 N) (ispec_PairCut N) Try.f18 (SP.mkL pspec_PairCut.slots v.1) (BP.mkL pspec_PairCut.store v.2) K = spec_PairCut.b N v.1.1 v.1.2.1 v.1.2.2.1 (fun o0_0 o0_1 o0_2 => K (.tuple [(.iv (.pair (.int .i64) (.pair (.int .i64) .unit)) o0_0), (.iv (.pair (.int .i64) (.pair (.int .i64) .unit)) o0_1), (.iv .bool o0_2)]) []) := by kernel_rfl
theorem espec_PairCut (N : Nat) {α : Type} (v : pspec_PairCut.V) (K : HV → List Blk → Option α) : runFn env (ct7 N) (ispec_PairCut N) Try.f18 (SP.mkL pspec_PairCut.slots v.1) (BP.mkL pspec_PairCut.store v.2) K = gspec_PairCut N v K := (espec_PairCut.b N v K).trans (by unfold gspec_PairCut; rw [spec_PairCut.eq])
theorem ospec_PairCut (N : Nat) : CalleeOK gd P 18 (mkCallee false pspec_PairCut (gspec_PairCut N)) :=
  callee_ok fun v K h => fn_snd hE hP (hct7 N) Try.func18 (by kernel_rfl) (body := bspec_PairCut) (by kernel_rfl) (by kernel_rfl) (AllOK.of (F := ispec_PairCut N) (l := []) (by kernel_rfl) .nil) (loans := BP.mkL pspec_PairCut.store v.2) rfl ((espec_PairCut N v K).trans h)
noncomputable def ct8 (N : Nat) : CT := (18, (mkCallee false pspec_PairCut (gspec_PairCut N))) :: ct7 N
theorem hct8 (N : Nat) : CTOK gd P (ct8 N) := .cons (ospec_PairCut N) (hct7 N)

noncomputable def iimpl_formatOf (N : Nat) : Fi := { loans := 0, owns := false, results := [.cell 2 84, .tmp 3], rtys := [84, 4], blks := [], regs := [], masks := [] }
noncomputable def bimpl_formatOf : Code := match Try.f78.body with | some c => c | none => .skip
noncomputable def pimpl_formatOf : Pt := ⟨[(.i (.int .i64))], []⟩
noncomputable def gimpl_formatOf (N : Nat) {α : Type} (v : pimpl_formatOf.V) (K : HV → List Blk → Option α) : Option α := impl_formatOf N v.1.1 (fun o0_0 o0_1 => K (.tuple [(.iv (.pair (.int .i64) (.pair (.int .i64) (.pair (.int .i64) (.pair (.int .i64) .unit)))) o0_0), (.iv .bool o0_1)]) [])
theorem eimpl_formatOf.b (N : Nat) {α : Type} (v : pimpl_formatOf.V) (K : HV → List Blk → Option α) : runFn env (ct8 N) (iimpl_formatOf N) Try.f78 (SP.mkL pimpl_formatOf.slots v.1) (BP.mkL pimpl_formatOf.store v.2) K = impl_formatOf.b N v.1.1 (fun o0_0 o0_1 => K (.tuple [(.iv (.pair (.int .i64) (.pair (.int .i64) (.pair (.int .i64) (.pair (.int .i64) .unit)))) o0_0), (.iv .bool o0_1)]) []) := by kernel_rfl
theorem eimpl_formatOf (N : Nat) {α : Type} (v : pimpl_formatOf.V) (K : HV → List Blk → Option α) : runFn env (ct8 N) (iimpl_formatOf N) Try.f78 (SP.mkL pimpl_formatOf.slots v.1) (BP.mkL pimpl_formatOf.store v.2) K = gimpl_formatOf N v K := (eimpl_formatOf.b N v K).trans (by unfold gimpl_formatOf; rw [impl_formatOf.eq])
theorem oimpl_formatOf (N : Nat) : CalleeOK gd P 78 (mkCallee false pimpl_formatOf (gimpl_formatOf N)) :=
  callee_ok fun v K h => fn_snd hE hP (hct8 N) Try.func78 (by kernel_rfl) (body := bimpl_formatOf) (by kernel_rfl) (by kernel_rfl) (AllOK.of (F := iimpl_formatOf N) (l := []) (by kernel_rfl) .nil) (loans := BP.mkL pimpl_formatOf.store v.2) rfl ((eimpl_formatOf N v K).trans h)
noncomputable def ct9 (N : Nat) : CT := (78, (mkCallee false pimpl_formatOf (gimpl_formatOf N))) :: ct8 N
theorem hct9 (N : Nat) : CTOK gd P (ct9 N) := .cons (oimpl_formatOf N) (hct8 N)

noncomputable def iimpl_BitTop (N : Nat) : Fi := { loans := 0, owns := false, results := [.tmp 2], rtys := [3], blks := [], regs := [], masks := [] }
noncomputable def bimpl_BitTop : Code := match Try.f53.body with | some c => c | none => .skip
noncomputable def pimpl_BitTop : Pt := ⟨[(.i (.int .i64))], []⟩
noncomputable def gimpl_BitTop (N : Nat) {α : Type} (v : pimpl_BitTop.V) (K : HV → List Blk → Option α) : Option α := impl_BitTop N v.1.1 (fun o0_0 => K (.iv (.int .i64) o0_0) [])
theorem eimpl_BitTop.b (N : Nat) {α : Type} (v : pimpl_BitTop.V) (K : HV → List Blk → Option α) : runFn env (ct9 N) (iimpl_BitTop N) Try.f53 (SP.mkL pimpl_BitTop.slots v.1) (BP.mkL pimpl_BitTop.store v.2) K = impl_BitTop.b N v.1.1 (fun o0_0 => K (.iv (.int .i64) o0_0) []) := by kernel_rfl
theorem eimpl_BitTop (N : Nat) {α : Type} (v : pimpl_BitTop.V) (K : HV → List Blk → Option α) : runFn env (ct9 N) (iimpl_BitTop N) Try.f53 (SP.mkL pimpl_BitTop.slots v.1) (BP.mkL pimpl_BitTop.store v.2) K = gimpl_BitTop N v K := (eimpl_BitTop.b N v K).trans (by unfold gimpl_BitTop; rw [impl_BitTop.eq])
theorem oimpl_BitTop (N : Nat) : CalleeOK gd P 53 (mkCallee false pimpl_BitTop (gimpl_BitTop N)) :=
  callee_ok fun v K h => fn_snd hE hP (hct9 N) Try.func53 (by kernel_rfl) (body := bimpl_BitTop) (by kernel_rfl) (by kernel_rfl) (AllOK.of (F := iimpl_BitTop N) (l := []) (by kernel_rfl) .nil) (loans := BP.mkL pimpl_BitTop.store v.2) rfl ((eimpl_BitTop N v K).trans h)
noncomputable def ct10 (N : Nat) : CT := (53, (mkCallee false pimpl_BitTop (gimpl_BitTop N))) :: ct9 N
theorem hct10 (N : Nat) : CTOK gd P (ct10 N) := .cons (oimpl_BitTop N) (hct9 N)

noncomputable def iimpl_in (N : Nat) : Fi := { loans := 0, owns := false, results := [.tmp 6], rtys := [4], blks := [], regs := [], masks := [] }
noncomputable def bimpl_in : Code := match Try.f79.body with | some c => c | none => .skip
noncomputable def pimpl_in : Pt := ⟨[(.i (.int .i64)), (.i (.int .i64)), (.i (.int .i64))], []⟩
noncomputable def gimpl_in (N : Nat) {α : Type} (v : pimpl_in.V) (K : HV → List Blk → Option α) : Option α := impl_in N v.1.1 v.1.2.1 v.1.2.2.1 (fun o0_0 => K (.iv .bool o0_0) [])
theorem eimpl_in.b (N : Nat) {α : Type} (v : pimpl_in.V) (K : HV → List Blk → Option α) : runFn env (ct10 N) (iimpl_in N) Try.f79 (SP.mkL pimpl_in.slots v.1) (BP.mkL pimpl_in.store v.2) K = impl_in.b N v.1.1 v.1.2.1 v.1.2.2.1 (fun o0_0 => K (.iv .bool o0_0) []) := by kernel_rfl
theorem eimpl_in (N : Nat) {α : Type} (v : pimpl_in.V) (K : HV → List Blk → Option α) : runFn env (ct10 N) (iimpl_in N) Try.f79 (SP.mkL pimpl_in.slots v.1) (BP.mkL pimpl_in.store v.2) K = gimpl_in N v K := (eimpl_in.b N v K).trans (by unfold gimpl_in; rw [impl_in.eq])
theorem oimpl_in (N : Nat) : CalleeOK gd P 79 (mkCallee false pimpl_in (gimpl_in N)) :=
  callee_ok fun v K h => fn_snd hE hP (hct10 N) Try.func79 (by kernel_rfl) (body := bimpl_in) (by kernel_rfl) (by kernel_rfl) (AllOK.of (F := iimpl_in N) (l := []) (by kernel_rfl) .nil) (loans := BP.mkL pimpl_in.store v.2) rfl ((eimpl_in N v K).trans h)
noncomputable def ct11 (N : Nat) : CT := (79, (mkCallee false pimpl_in (gimpl_in N))) :: ct10 N
theorem hct11 (N : Nat) : CTOK gd P (ct11 N) := .cons (oimpl_in N) (hct10 N)

noncomputable def iimpl_BitOk (N : Nat) : Fi := { loans := 0, owns := false, results := [.tmp 4], rtys := [4], blks := [], regs := [], masks := [] }
noncomputable def bimpl_BitOk : Code := match Try.f54.body with | some c => c | none => .skip
noncomputable def pimpl_BitOk : Pt := ⟨[(.i (.int .i64)), (.i (.int .i64))], []⟩
noncomputable def gimpl_BitOk (N : Nat) {α : Type} (v : pimpl_BitOk.V) (K : HV → List Blk → Option α) : Option α := impl_BitOk N v.1.1 v.1.2.1 (fun o0_0 => K (.iv .bool o0_0) [])
theorem eimpl_BitOk.b (N : Nat) {α : Type} (v : pimpl_BitOk.V) (K : HV → List Blk → Option α) : runFn env (ct11 N) (iimpl_BitOk N) Try.f54 (SP.mkL pimpl_BitOk.slots v.1) (BP.mkL pimpl_BitOk.store v.2) K = impl_BitOk.b N v.1.1 v.1.2.1 (fun o0_0 => K (.iv .bool o0_0) []) := by kernel_rfl
theorem eimpl_BitOk (N : Nat) {α : Type} (v : pimpl_BitOk.V) (K : HV → List Blk → Option α) : runFn env (ct11 N) (iimpl_BitOk N) Try.f54 (SP.mkL pimpl_BitOk.slots v.1) (BP.mkL pimpl_BitOk.store v.2) K = gimpl_BitOk N v K := (eimpl_BitOk.b N v K).trans (by unfold gimpl_BitOk; rw [impl_BitOk.eq])
theorem oimpl_BitOk (N : Nat) : CalleeOK gd P 54 (mkCallee false pimpl_BitOk (gimpl_BitOk N)) :=
  callee_ok fun v K h => fn_snd hE hP (hct11 N) Try.func54 (by kernel_rfl) (body := bimpl_BitOk) (by kernel_rfl) (by kernel_rfl) (AllOK.of (F := iimpl_BitOk N) (l := []) (by kernel_rfl) .nil) (loans := BP.mkL pimpl_BitOk.store v.2) rfl ((eimpl_BitOk N v K).trans h)
noncomputable def ct12 (N : Nat) : CT := (54, (mkCallee false pimpl_BitOk (gimpl_BitOk N))) :: ct11 N
theorem hct12 (N : Nat) : CTOK gd P (ct12 N) := .cons (oimpl_BitOk N) (hct11 N)

noncomputable def iimpl_PairOk (N : Nat) : Fi := { loans := 0, owns := false, results := [.tmp 4], rtys := [4], blks := [], regs := [], masks := [] }
noncomputable def bimpl_PairOk : Code := match Try.f23.body with | some c => c | none => .skip
noncomputable def pimpl_PairOk : Pt := ⟨[(.i (.int .i64)), (.i (.pair (.int .i64) (.pair (.int .i64) .unit)))], []⟩
noncomputable def gimpl_PairOk (N : Nat) {α : Type} (v : pimpl_PairOk.V) (K : HV → List Blk → Option α) : Option α := impl_PairOk N v.1.1 v.1.2.1 (fun o0_0 => K (.iv .bool o0_0) [])
theorem eimpl_PairOk.b (N : Nat) {α : Type} (v : pimpl_PairOk.V) (K : HV → List Blk → Option α) : runFn env (ct12 N) (iimpl_PairOk N) Try.f23 (SP.mkL pimpl_PairOk.slots v.1) (BP.mkL pimpl_PairOk.store v.2) K = impl_PairOk.b N v.1.1 v.1.2.1 (fun o0_0 => K (.iv .bool o0_0) []) := by kernel_rfl
theorem eimpl_PairOk (N : Nat) {α : Type} (v : pimpl_PairOk.V) (K : HV → List Blk → Option α) : runFn env (ct12 N) (iimpl_PairOk N) Try.f23 (SP.mkL pimpl_PairOk.slots v.1) (BP.mkL pimpl_PairOk.store v.2) K = gimpl_PairOk N v K := (eimpl_PairOk.b N v K).trans (by unfold gimpl_PairOk; rw [impl_PairOk.eq])
theorem oimpl_PairOk (N : Nat) : CalleeOK gd P 23 (mkCallee false pimpl_PairOk (gimpl_PairOk N)) :=
  callee_ok fun v K h => fn_snd hE hP (hct12 N) Try.func23 (by kernel_rfl) (body := bimpl_PairOk) (by kernel_rfl) (by kernel_rfl) (AllOK.of (F := iimpl_PairOk N) (l := []) (by kernel_rfl) .nil) (loans := BP.mkL pimpl_PairOk.store v.2) rfl ((eimpl_PairOk N v K).trans h)
noncomputable def ct13 (N : Nat) : CT := (23, (mkCallee false pimpl_PairOk (gimpl_PairOk N))) :: ct12 N
theorem hct13 (N : Nat) : CTOK gd P (ct13 N) := .cons (oimpl_PairOk N) (hct12 N)

noncomputable def iimpl_BitGap (N : Nat) : Fi := { loans := 0, owns := false, results := [.tmp 4], rtys := [35], blks := [], regs := [], masks := [] }
noncomputable def bimpl_BitGap : Code := match Try.f22.body with | some c => c | none => .skip
noncomputable def pimpl_BitGap : Pt := ⟨[(.i (.int .i64)), (.i (.int .i64))], []⟩
noncomputable def gimpl_BitGap (N : Nat) {α : Type} (v : pimpl_BitGap.V) (K : HV → List Blk → Option α) : Option α := impl_BitGap N v.1.1 v.1.2.1 (fun o0_0 => K (.iv (.int .u64) o0_0) [])
theorem eimpl_BitGap.b (N : Nat) {α : Type} (v : pimpl_BitGap.V) (K : HV → List Blk → Option α) : runFn env (ct13 N) (iimpl_BitGap N) Try.f22 (SP.mkL pimpl_BitGap.slots v.1) (BP.mkL pimpl_BitGap.store v.2) K = impl_BitGap.b N v.1.1 v.1.2.1 (fun o0_0 => K (.iv (.int .u64) o0_0) []) := by kernel_rfl
theorem eimpl_BitGap (N : Nat) {α : Type} (v : pimpl_BitGap.V) (K : HV → List Blk → Option α) : runFn env (ct13 N) (iimpl_BitGap N) Try.f22 (SP.mkL pimpl_BitGap.slots v.1) (BP.mkL pimpl_BitGap.store v.2) K = gimpl_BitGap N v K := (eimpl_BitGap.b N v K).trans (by unfold gimpl_BitGap; rw [impl_BitGap.eq])
theorem oimpl_BitGap (N : Nat) : CalleeOK gd P 22 (mkCallee false pimpl_BitGap (gimpl_BitGap N)) :=
  callee_ok fun v K h => fn_snd hE hP (hct13 N) Try.func22 (by kernel_rfl) (body := bimpl_BitGap) (by kernel_rfl) (by kernel_rfl) (AllOK.of (F := iimpl_BitGap N) (l := []) (by kernel_rfl) .nil) (loans := BP.mkL pimpl_BitGap.store v.2) rfl ((eimpl_BitGap N v K).trans h)
noncomputable def ct14 (N : Nat) : CT := (22, (mkCallee false pimpl_BitGap (gimpl_BitGap N))) :: ct13 N
theorem hct14 (N : Nat) : CTOK gd P (ct14 N) := .cons (oimpl_BitGap N) (hct13 N)

noncomputable def iimpl_Pair_steps (N : Nat) : Fi := { loans := 0, owns := false, results := [.tmp 2], rtys := [35], blks := [], regs := [], masks := [] }
noncomputable def bimpl_Pair_steps : Code := match Try.f48.body with | some c => c | none => .skip
noncomputable def pimpl_Pair_steps : Pt := ⟨[(.i (.pair (.int .i64) (.pair (.int .i64) .unit)))], []⟩
noncomputable def gimpl_Pair_steps (N : Nat) {α : Type} (v : pimpl_Pair_steps.V) (K : HV → List Blk → Option α) : Option α := impl_Pair_steps N v.1.1 (fun o0_0 => K (.iv (.int .u64) o0_0) [])
theorem eimpl_Pair_steps.b (N : Nat) {α : Type} (v : pimpl_Pair_steps.V) (K : HV → List Blk → Option α) : runFn env (ct14 N) (iimpl_Pair_steps N) Try.f48 (SP.mkL pimpl_Pair_steps.slots v.1) (BP.mkL pimpl_Pair_steps.store v.2) K = impl_Pair_steps.b N v.1.1 (fun o0_0 => K (.iv (.int .u64) o0_0) []) := by kernel_rfl
theorem eimpl_Pair_steps (N : Nat) {α : Type} (v : pimpl_Pair_steps.V) (K : HV → List Blk → Option α) : runFn env (ct14 N) (iimpl_Pair_steps N) Try.f48 (SP.mkL pimpl_Pair_steps.slots v.1) (BP.mkL pimpl_Pair_steps.store v.2) K = gimpl_Pair_steps N v K := (eimpl_Pair_steps.b N v K).trans (by unfold gimpl_Pair_steps; rw [impl_Pair_steps.eq])
theorem oimpl_Pair_steps (N : Nat) : CalleeOK gd P 48 (mkCallee false pimpl_Pair_steps (gimpl_Pair_steps N)) :=
  callee_ok fun v K h => fn_snd hE hP (hct14 N) Try.func48 (by kernel_rfl) (body := bimpl_Pair_steps) (by kernel_rfl) (by kernel_rfl) (AllOK.of (F := iimpl_Pair_steps N) (l := []) (by kernel_rfl) .nil) (loans := BP.mkL pimpl_Pair_steps.store v.2) rfl ((eimpl_Pair_steps N v K).trans h)
noncomputable def ct15 (N : Nat) : CT := (48, (mkCallee false pimpl_Pair_steps (gimpl_Pair_steps N))) :: ct14 N
theorem hct15 (N : Nat) : CTOK gd P (ct15 N) := .cons (oimpl_Pair_steps N) (hct14 N)

noncomputable def iimpl_PairCut (N : Nat) : Fi := { loans := 0, owns := false, results := [.cell 6 24, .cell 7 24, .tmp 8], rtys := [24, 24, 4], blks := [], regs := [], masks := [] }
noncomputable def bimpl_PairCut : Code := match Try.f19.body with | some c => c | none => .skip
noncomputable def pimpl_PairCut : Pt := ⟨[(.i (.int .i64)), (.i (.pair (.int .i64) (.pair (.int .i64) .unit))), (.i (.pair (.int .i64) (.pair (.int .i64) .unit)))], []⟩
noncomputable def gimpl_PairCut (N : Nat) {α : Type} (v : pimpl_PairCut.V) (K : HV → List Blk → Option α) : Option α := impl_PairCut N v.1.1 v.1.2.1 v.1.2.2.1 (fun o0_0 o0_1 o0_2 => K (.tuple [(.iv (.pair (.int .i64) (.pair (.int .i64) .unit)) o0_0), (.iv (.pair (.int .i64) (.pair (.int .i64) .unit)) o0_1), (.iv .bool o0_2)]) [])
theorem eimpl_PairCut.b (N : Nat) {α : Type} (v : pimpl_PairCut.V) (K : HV → List Blk → Option α) : runFn env (ct15 N) (iimpl_PairCut N) Try.f19 (SP.mkL pimpl_PairCut.slots v.1) (BP.mkL pimpl_PairCut.store v.2) K = impl_PairCut.b N v.1.1 v.1.2.1 v.1.2.2.1 (fun o0_0 o0_1 o0_2 => K (.tuple [(.iv (.pair (.int .i64) (.pair (.int .i64) .unit)) o0_0), (.iv (.pair (.int .i64) (.pair (.int .i64) .unit)) o0_1), (.iv .bool o0_2)]) []) := by kernel_rfl
theorem eimpl_PairCut (N : Nat) {α : Type} (v : pimpl_PairCut.V) (K : HV → List Blk → Option α) : runFn env (ct15 N) (iimpl_PairCut N) Try.f19 (SP.mkL pimpl_PairCut.slots v.1) (BP.mkL pimpl_PairCut.store v.2) K = gimpl_PairCut N v K := (eimpl_PairCut.b N v K).trans (by unfold gimpl_PairCut; rw [impl_PairCut.eq])
theorem oimpl_PairCut (N : Nat) : CalleeOK gd P 19 (mkCallee false pimpl_PairCut (gimpl_PairCut N)) :=
  callee_ok fun v K h => fn_snd hE hP (hct15 N) Try.func19 (by kernel_rfl) (body := bimpl_PairCut) (by kernel_rfl) (by kernel_rfl) (AllOK.of (F := iimpl_PairCut N) (l := []) (by kernel_rfl) .nil) (loans := BP.mkL pimpl_PairCut.store v.2) rfl ((eimpl_PairCut N v K).trans h)
noncomputable def ct16 (N : Nat) : CT := (19, (mkCallee false pimpl_PairCut (gimpl_PairCut N))) :: ct15 N
theorem hct16 (N : Nat) : CTOK gd P (ct16 N) := .cons (oimpl_PairCut N) (hct15 N)

noncomputable def ilaws_eqPair (N : Nat) : Fi := { loans := 0, owns := false, results := [.tmp 4], rtys := [4], blks := [], regs := [], masks := [] }
noncomputable def blaws_eqPair : Code := match Try.f17.body with | some c => c | none => .skip
noncomputable def plaws_eqPair : Pt := ⟨[(.i (.pair (.int .i64) (.pair (.int .i64) .unit))), (.i (.pair (.int .i64) (.pair (.int .i64) .unit)))], []⟩
noncomputable def glaws_eqPair (N : Nat) {α : Type} (v : plaws_eqPair.V) (K : HV → List Blk → Option α) : Option α := laws_eqPair N v.1.1 v.1.2.1 (fun o0_0 => K (.iv .bool o0_0) [])
theorem elaws_eqPair.b (N : Nat) {α : Type} (v : plaws_eqPair.V) (K : HV → List Blk → Option α) : runFn env (ct16 N) (ilaws_eqPair N) Try.f17 (SP.mkL plaws_eqPair.slots v.1) (BP.mkL plaws_eqPair.store v.2) K = laws_eqPair.b N v.1.1 v.1.2.1 (fun o0_0 => K (.iv .bool o0_0) []) := by kernel_rfl
theorem elaws_eqPair (N : Nat) {α : Type} (v : plaws_eqPair.V) (K : HV → List Blk → Option α) : runFn env (ct16 N) (ilaws_eqPair N) Try.f17 (SP.mkL plaws_eqPair.slots v.1) (BP.mkL plaws_eqPair.store v.2) K = glaws_eqPair N v K := (elaws_eqPair.b N v K).trans (by unfold glaws_eqPair; rw [laws_eqPair.eq])
theorem olaws_eqPair (N : Nat) : CalleeOK gd P 17 (mkCallee false plaws_eqPair (glaws_eqPair N)) :=
  callee_ok fun v K h => fn_snd hE hP (hct16 N) Try.func17 (by kernel_rfl) (body := blaws_eqPair) (by kernel_rfl) (by kernel_rfl) (AllOK.of (F := ilaws_eqPair N) (l := []) (by kernel_rfl) .nil) (loans := BP.mkL plaws_eqPair.store v.2) rfl ((elaws_eqPair N v K).trans h)
noncomputable def ct17 (N : Nat) : CT := (17, (mkCallee false plaws_eqPair (glaws_eqPair N))) :: ct16 N
theorem hct17 (N : Nat) : CTOK gd P (ct17 N) := .cons (olaws_eqPair N) (hct16 N)

noncomputable def ilaws_FnExactPairCut (N : Nat) : Fi := { loans := 0, owns := false, results := [.tmp 6], rtys := [4], blks := [], regs := [], masks := [] }
noncomputable def blaws_FnExactPairCut : Code := match Try.f4.body with | some c => c | none => .skip
noncomputable def plaws_FnExactPairCut : Pt := ⟨[(.i (.int .i64)), (.i (.pair (.int .i64) (.pair (.int .i64) .unit))), (.i (.pair (.int .i64) (.pair (.int .i64) .unit)))], []⟩
noncomputable def glaws_FnExactPairCut (N : Nat) {α : Type} (v : plaws_FnExactPairCut.V) (K : HV → List Blk → Option α) : Option α := laws_FnExactPairCut N v.1.1 v.1.2.1 v.1.2.2.1 (fun o0_0 => K (.iv .bool o0_0) [])
theorem elaws_FnExactPairCut.b (N : Nat) {α : Type} (v : plaws_FnExactPairCut.V) (K : HV → List Blk → Option α) : runFn env (ct17 N) (ilaws_FnExactPairCut N) Try.f4 (SP.mkL plaws_FnExactPairCut.slots v.1) (BP.mkL plaws_FnExactPairCut.store v.2) K = laws_FnExactPairCut.b N v.1.1 v.1.2.1 v.1.2.2.1 (fun o0_0 => K (.iv .bool o0_0) []) := by kernel_rfl
theorem elaws_FnExactPairCut (N : Nat) {α : Type} (v : plaws_FnExactPairCut.V) (K : HV → List Blk → Option α) : runFn env (ct17 N) (ilaws_FnExactPairCut N) Try.f4 (SP.mkL plaws_FnExactPairCut.slots v.1) (BP.mkL plaws_FnExactPairCut.store v.2) K = glaws_FnExactPairCut N v K := (elaws_FnExactPairCut.b N v K).trans (by unfold glaws_FnExactPairCut; rw [laws_FnExactPairCut.eq])
theorem olaws_FnExactPairCut (N : Nat) : CalleeOK gd P 4 (mkCallee false plaws_FnExactPairCut (glaws_FnExactPairCut N)) :=
  callee_ok fun v K h => fn_snd hE hP (hct17 N) Try.func4 (by kernel_rfl) (body := blaws_FnExactPairCut) (by kernel_rfl) (by kernel_rfl) (AllOK.of (F := ilaws_FnExactPairCut N) (l := []) (by kernel_rfl) .nil) (loans := BP.mkL plaws_FnExactPairCut.store v.2) rfl ((elaws_FnExactPairCut N v K).trans h)
noncomputable def ct18 (N : Nat) : CT := (4, (mkCallee false plaws_FnExactPairCut (glaws_FnExactPairCut N))) :: ct17 N
theorem hct18 (N : Nat) : CTOK gd P (ct18 N) := .cons (olaws_FnExactPairCut N) (hct17 N)

end
end
end Go.Proofs.YtaelbfbplamahaaAm
