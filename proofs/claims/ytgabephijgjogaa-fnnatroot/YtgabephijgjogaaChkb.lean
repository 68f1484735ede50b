/-
  The functions are what the program computes. Printed by amp.py.
-/
import Derived.Test.YtgabephijgjogaaChk
namespace Go.Proofs.YtgabephijgjogaaAm
open Go
noncomputable section
set_option linter.unusedVariables false
set_option linter.unusedSimpArgs false
section
variable {gd : Gd}
noncomputable def gslices_IndexFunc_int_int__impl_nats_1 (N : Nat) {α : Type} (v : pslices_IndexFunc_int_int__impl_nats_1.V) (K : HV → List Blk → Option α) : Option α := slices_IndexFunc_int_int__impl_nats_1 N v.1.1 (fun o0_0 => K (.iv (.int .i64) o0_0) [])
theorem eslices_IndexFunc_int_int__impl_nats_1.b (N : Nat) {α : Type} (v : pslices_IndexFunc_int_int__impl_nats_1.V) (K : HV → List Blk → Option α) : runFn env (ct31 N) (islices_IndexFunc_int_int__impl_nats_1 N) Try.f90 (SP.mkL pslices_IndexFunc_int_int__impl_nats_1.slots v.1) (BP.mkL pslices_IndexFunc_int_int__impl_nats_1.store v.2) K = slices_IndexFunc_int_int__impl_nats_1.b N v.1.1 (fun o0_0 => K (.iv (.int .i64) o0_0) []) := by kernel_rfl
theorem eslices_IndexFunc_int_int__impl_nats_1 (N : Nat) {α : Type} (v : pslices_IndexFunc_int_int__impl_nats_1.V) (K : HV → List Blk → Option α) : runFn env (ct31 N) (islices_IndexFunc_int_int__impl_nats_1 N) Try.f90 (SP.mkL pslices_IndexFunc_int_int__impl_nats_1.slots v.1) (BP.mkL pslices_IndexFunc_int_int__impl_nats_1.store v.2) K = gslices_IndexFunc_int_int__impl_nats_1 N v K := (eslices_IndexFunc_int_int__impl_nats_1.b N v K).trans (by unfold gslices_IndexFunc_int_int__impl_nats_1; rw [slices_IndexFunc_int_int__impl_nats_1.eq])
theorem oslices_IndexFunc_int_int__impl_nats_1 (N : Nat) : CalleeOK gd P 90 (mkCallee false pslices_IndexFunc_int_int__impl_nats_1 (gslices_IndexFunc_int_int__impl_nats_1 N)) :=
  callee_ok fun v K h => fn_snd hE hP (hct31 N) Try.func90 (by kernel_rfl) (body := bslices_IndexFunc_int_int__impl_nats_1) (by kernel_rfl) (by kernel_rfl) (AllOK.of (F := islices_IndexFunc_int_int__impl_nats_1 N) (l := [((.block 0 (.loop (codeAt bslices_IndexFunc_int_int__impl_nats_1 [1, 0, 1, 0, 0]))), qslices_IndexFunc_int_int__impl_nats_1_L0 N)]) (by kernel_rfl) (.cons (oqslices_IndexFunc_int_int__impl_nats_1_L0 N) .nil)) (loans := BP.mkL pslices_IndexFunc_int_int__impl_nats_1.store v.2) rfl ((eslices_IndexFunc_int_int__impl_nats_1 N v K).trans h)
noncomputable def ct32 (N : Nat) : CT := (90, (mkCallee false pslices_IndexFunc_int_int__impl_nats_1 (gslices_IndexFunc_int_int__impl_nats_1 N))) :: ct31 N
theorem hct32 (N : Nat) : CTOK gd P (ct32 N) := .cons (oslices_IndexFunc_int_int__impl_nats_1 N) (hct31 N)

noncomputable def islices_ContainsFunc_int_int__impl_nats_1 (N : Nat) : Fi := { loans := 0, owns := true, results := [.tmp 4], rtys := [4], blks := [], regs := [], masks := [] }
noncomputable def bslices_ContainsFunc_int_int__impl_nats_1 : Code := match Try.f76.body with | some c => c | none => .skip
noncomputable def pslices_ContainsFunc_int_int__impl_nats_1 : Pt := ⟨[(.i (.sl (.sl (.int .i64)))), (.f 77 [])], []⟩
noncomputable def gslices_ContainsFunc_int_int__impl_nats_1 (N : Nat) {α : Type} (v : pslices_ContainsFunc_int_int__impl_nats_1.V) (K : HV → List Blk → Option α) : Option α := slices_ContainsFunc_int_int__impl_nats_1 N v.1.1 (fun o0_0 => K (.iv .bool o0_0) [])
theorem eslices_ContainsFunc_int_int__impl_nats_1.b (N : Nat) {α : Type} (v : pslices_ContainsFunc_int_int__impl_nats_1.V) (K : HV → List Blk → Option α) : runFn env (ct32 N) (islices_ContainsFunc_int_int__impl_nats_1 N) Try.f76 (SP.mkL pslices_ContainsFunc_int_int__impl_nats_1.slots v.1) (BP.mkL pslices_ContainsFunc_int_int__impl_nats_1.store v.2) K = slices_ContainsFunc_int_int__impl_nats_1.b N v.1.1 (fun o0_0 => K (.iv .bool o0_0) []) := by kernel_rfl
theorem eslices_ContainsFunc_int_int__impl_nats_1 (N : Nat) {α : Type} (v : pslices_ContainsFunc_int_int__impl_nats_1.V) (K : HV → List Blk → Option α) : runFn env (ct32 N) (islices_ContainsFunc_int_int__impl_nats_1 N) Try.f76 (SP.mkL pslices_ContainsFunc_int_int__impl_nats_1.slots v.1) (BP.mkL pslices_ContainsFunc_int_int__impl_nats_1.store v.2) K = gslices_ContainsFunc_int_int__impl_nats_1 N v K := (eslices_ContainsFunc_int_int__impl_nats_1.b N v K).trans (by unfold gslices_ContainsFunc_int_int__impl_nats_1; rw [slices_ContainsFunc_int_int__impl_nats_1.eq])
theorem oslices_ContainsFunc_int_int__impl_nats_1 (N : Nat) : CalleeOK gd P 76 (mkCallee false pslices_ContainsFunc_int_int__impl_nats_1 (gslices_ContainsFunc_int_int__impl_nats_1 N)) :=
  callee_ok fun v K h => fn_snd hE hP (hct32 N) Try.func76 (by kernel_rfl) (body := bslices_ContainsFunc_int_int__impl_nats_1) (by kernel_rfl) (by kernel_rfl) (AllOK.of (F := islices_ContainsFunc_int_int__impl_nats_1 N) (l := []) (by kernel_rfl) .nil) (loans := BP.mkL pslices_ContainsFunc_int_int__impl_nats_1.store v.2) rfl ((eslices_ContainsFunc_int_int__impl_nats_1 N v K).trans h)
noncomputable def ct33 (N : Nat) : CT := (76, (mkCallee false pslices_ContainsFunc_int_int__impl_nats_1 (gslices_ContainsFunc_int_int__impl_nats_1 N))) :: ct32 N
theorem hct33 (N : Nat) : CTOK gd P (ct33 N) := .cons (oslices_ContainsFunc_int_int__impl_nats_1 N) (hct32 N)

noncomputable def iimpl_nats (N : Nat) : Fi := { loans := 0, owns := true, results := [.tmp 2], rtys := [4], blks := [], regs := [], masks := [] }
noncomputable def bimpl_nats : Code := match Try.f49.body with | some c => c | none => .skip
noncomputable def pimpl_nats : Pt := ⟨[(.i (.sl (.sl (.int .i64))))], []⟩
noncomputable def gimpl_nats (N : Nat) {α : Type} (v : pimpl_nats.V) (K : HV → List Blk → Option α) : Option α := impl_nats N v.1.1 (fun o0_0 => K (.iv .bool o0_0) [])
theorem eimpl_nats.b (N : Nat) {α : Type} (v : pimpl_nats.V) (K : HV → List Blk → Option α) : runFn env (ct33 N) (iimpl_nats N) Try.f49 (SP.mkL pimpl_nats.slots v.1) (BP.mkL pimpl_nats.store v.2) K = impl_nats.b N v.1.1 (fun o0_0 => K (.iv .bool o0_0) []) := by kernel_rfl
theorem eimpl_nats (N : Nat) {α : Type} (v : pimpl_nats.V) (K : HV → List Blk → Option α) : runFn env (ct33 N) (iimpl_nats N) Try.f49 (SP.mkL pimpl_nats.slots v.1) (BP.mkL pimpl_nats.store v.2) K = gimpl_nats N v K := (eimpl_nats.b N v K).trans (by unfold gimpl_nats; rw [impl_nats.eq])
theorem oimpl_nats (N : Nat) : CalleeOK gd P 49 (mkCallee false pimpl_nats (gimpl_nats N)) :=
  callee_ok fun v K h => fn_snd hE hP (hct33 N) Try.func49 (by kernel_rfl) (body := bimpl_nats) (by kernel_rfl) (by kernel_rfl) (AllOK.of (F := iimpl_nats N) (l := []) (by kernel_rfl) .nil) (loans := BP.mkL pimpl_nats.store v.2) rfl ((eimpl_nats N v K).trans h)
noncomputable def ct34 (N : Nat) : CT := (49, (mkCallee false pimpl_nats (gimpl_nats N))) :: ct33 N
theorem hct34 (N : Nat) : CTOK gd P (ct34 N) := .cons (oimpl_nats N) (hct33 N)

noncomputable def iimpl_told (N : Nat) : Fi := { loans := 0, owns := true, results := [.tmp 4, .tmp 5], rtys := [25, 4], blks := [], regs := [], masks := [] }
noncomputable def bimpl_told : Code := match Try.f51.body with | some c => c | none => .skip
noncomputable def pimpl_told : Pt := ⟨[(.i (.sl (.int .i64))), (.i .bool)], []⟩
noncomputable def gimpl_told (N : Nat) {α : Type} (v : pimpl_told.V) (K : HV → List Blk → Option α) : Option α := impl_told N v.1.1 v.1.2.1 (fun o0_0 o0_1 => K (.tuple [(.own 0), (.iv .bool o0_0)]) [(.arr 3 (.int .i64) o0_1 false)])
theorem eimpl_told.b (N : Nat) {α : Type} (v : pimpl_told.V) (K : HV → List Blk → Option α) : runFn env (ct34 N) (iimpl_told N) Try.f51 (SP.mkL pimpl_told.slots v.1) (BP.mkL pimpl_told.store v.2) K = impl_told.b N v.1.1 v.1.2.1 (fun o0_0 o0_1 => K (.tuple [(.own 0), (.iv .bool o0_0)]) [(.arr 3 (.int .i64) o0_1 false)]) := by kernel_rfl
theorem eimpl_told (N : Nat) {α : Type} (v : pimpl_told.V) (K : HV → List Blk → Option α) : runFn env (ct34 N) (iimpl_told N) Try.f51 (SP.mkL pimpl_told.slots v.1) (BP.mkL pimpl_told.store v.2) K = gimpl_told N v K := (eimpl_told.b N v K).trans (by unfold gimpl_told; rw [impl_told.eq])
theorem oimpl_told (N : Nat) : CalleeOK gd P 51 (mkCallee false pimpl_told (gimpl_told N)) :=
  callee_ok fun v K h => fn_snd hE hP (hct34 N) Try.func51 (by kernel_rfl) (body := bimpl_told) (by kernel_rfl) (by kernel_rfl) (AllOK.of (F := iimpl_told N) (l := []) (by kernel_rfl) .nil) (loans := BP.mkL pimpl_told.store v.2) rfl ((eimpl_told N v K).trans h)
noncomputable def ct35 (N : Nat) : CT := (51, (mkCallee false pimpl_told (gimpl_told N))) :: ct34 N
theorem hct35 (N : Nat) : CTOK gd P (ct35 N) := .cons (oimpl_told N) (hct34 N)

noncomputable def iimpl_NatMul (N : Nat) : Fi := { loans := 0, owns := true, results := [.tmp 4, .tmp 5], rtys := [25, 4], blks := [], regs := [], masks := [] }
noncomputable def bimpl_NatMul : Code := match Try.f31.body with | some c => c | none => .skip
noncomputable def pimpl_NatMul : Pt := ⟨[(.i (.sl (.int .i64))), (.i (.sl (.int .i64)))], []⟩
noncomputable def gimpl_NatMul (N : Nat) {α : Type} (v : pimpl_NatMul.V) (K : HV → List Blk → Option α) : Option α := impl_NatMul N v.1.1 v.1.2.1 (fun o0_0 o0_1 => K (.tuple [(.own 0), (.iv .bool o0_0)]) [(.arr 3 (.int .i64) o0_1 false)])
theorem eimpl_NatMul.b (N : Nat) {α : Type} (v : pimpl_NatMul.V) (K : HV → List Blk → Option α) : runFn env (ct35 N) (iimpl_NatMul N) Try.f31 (SP.mkL pimpl_NatMul.slots v.1) (BP.mkL pimpl_NatMul.store v.2) K = impl_NatMul.b N v.1.1 v.1.2.1 (fun o0_0 o0_1 => K (.tuple [(.own 0), (.iv .bool o0_0)]) [(.arr 3 (.int .i64) o0_1 false)]) := by kernel_rfl
theorem eimpl_NatMul (N : Nat) {α : Type} (v : pimpl_NatMul.V) (K : HV → List Blk → Option α) : runFn env (ct35 N) (iimpl_NatMul N) Try.f31 (SP.mkL pimpl_NatMul.slots v.1) (BP.mkL pimpl_NatMul.store v.2) K = gimpl_NatMul N v K := (eimpl_NatMul.b N v K).trans (by unfold gimpl_NatMul; rw [impl_NatMul.eq])
theorem oimpl_NatMul (N : Nat) : CalleeOK gd P 31 (mkCallee false pimpl_NatMul (gimpl_NatMul N)) :=
  callee_ok fun v K h => fn_snd hE hP (hct35 N) Try.func31 (by kernel_rfl) (body := bimpl_NatMul) (by kernel_rfl) (by kernel_rfl) (AllOK.of (F := iimpl_NatMul N) (l := []) (by kernel_rfl) .nil) (loans := BP.mkL pimpl_NatMul.store v.2) rfl ((eimpl_NatMul N v K).trans h)
noncomputable def ct36 (N : Nat) : CT := (31, (mkCallee false pimpl_NatMul (gimpl_NatMul N))) :: ct35 N
theorem hct36 (N : Nat) : CTOK gd P (ct36 N) := .cons (oimpl_NatMul N) (hct35 N)

noncomputable def iimpl_NatCmp (N : Nat) : Fi := { loans := 0, owns := true, results := [.tmp 4], rtys := [3], blks := [], regs := [], masks := [] }
noncomputable def bimpl_NatCmp : Code := match Try.f16.body with | some c => c | none => .skip
noncomputable def pimpl_NatCmp : Pt := ⟨[(.i (.sl (.int .i64))), (.i (.sl (.int .i64)))], []⟩
noncomputable def gimpl_NatCmp (N : Nat) {α : Type} (v : pimpl_NatCmp.V) (K : HV → List Blk → Option α) : Option α := impl_NatCmp N v.1.1 v.1.2.1 (fun o0_0 => K (.iv (.int .i64) o0_0) [])
theorem eimpl_NatCmp.b (N : Nat) {α : Type} (v : pimpl_NatCmp.V) (K : HV → List Blk → Option α) : runFn env (ct36 N) (iimpl_NatCmp N) Try.f16 (SP.mkL pimpl_NatCmp.slots v.1) (BP.mkL pimpl_NatCmp.store v.2) K = impl_NatCmp.b N v.1.1 v.1.2.1 (fun o0_0 => K (.iv (.int .i64) o0_0) []) := by kernel_rfl
theorem eimpl_NatCmp (N : Nat) {α : Type} (v : pimpl_NatCmp.V) (K : HV → List Blk → Option α) : runFn env (ct36 N) (iimpl_NatCmp N) Try.f16 (SP.mkL pimpl_NatCmp.slots v.1) (BP.mkL pimpl_NatCmp.store v.2) K = gimpl_NatCmp N v K := (eimpl_NatCmp.b N v K).trans (by unfold gimpl_NatCmp; rw [impl_NatCmp.eq])
theorem oimpl_NatCmp (N : Nat) : CalleeOK gd P 16 (mkCallee false pimpl_NatCmp (gimpl_NatCmp N)) :=
  callee_ok fun v K h => fn_snd hE hP (hct36 N) Try.func16 (by kernel_rfl) (body := bimpl_NatCmp) (by kernel_rfl) (by kernel_rfl) (AllOK.of (F := iimpl_NatCmp N) (l := []) (by kernel_rfl) .nil) (loans := BP.mkL pimpl_NatCmp.store v.2) rfl ((eimpl_NatCmp N v K).trans h)
noncomputable def ct37 (N : Nat) : CT := (16, (mkCallee false pimpl_NatCmp (gimpl_NatCmp N))) :: ct36 N
theorem hct37 (N : Nat) : CTOK gd P (ct37 N) := .cons (oimpl_NatCmp N) (hct36 N)

noncomputable def iimpl_NatAdd (N : Nat) : Fi := { loans := 0, owns := true, results := [.tmp 4, .tmp 5], rtys := [25, 4], blks := [], regs := [], masks := [] }
noncomputable def bimpl_NatAdd : Code := match Try.f19.body with | some c => c | none => .skip
noncomputable def pimpl_NatAdd : Pt := ⟨[(.i (.sl (.int .i64))), (.i (.sl (.int .i64)))], []⟩
noncomputable def gimpl_NatAdd (N : Nat) {α : Type} (v : pimpl_NatAdd.V) (K : HV → List Blk → Option α) : Option α := impl_NatAdd N v.1.1 v.1.2.1 (fun o0_0 o0_1 => K (.tuple [(.own 0), (.iv .bool o0_0)]) [(.arr 3 (.int .i64) o0_1 false)])
theorem eimpl_NatAdd.b (N : Nat) {α : Type} (v : pimpl_NatAdd.V) (K : HV → List Blk → Option α) : runFn env (ct37 N) (iimpl_NatAdd N) Try.f19 (SP.mkL pimpl_NatAdd.slots v.1) (BP.mkL pimpl_NatAdd.store v.2) K = impl_NatAdd.b N v.1.1 v.1.2.1 (fun o0_0 o0_1 => K (.tuple [(.own 0), (.iv .bool o0_0)]) [(.arr 3 (.int .i64) o0_1 false)]) := by kernel_rfl
theorem eimpl_NatAdd (N : Nat) {α : Type} (v : pimpl_NatAdd.V) (K : HV → List Blk → Option α) : runFn env (ct37 N) (iimpl_NatAdd N) Try.f19 (SP.mkL pimpl_NatAdd.slots v.1) (BP.mkL pimpl_NatAdd.store v.2) K = gimpl_NatAdd N v K := (eimpl_NatAdd.b N v K).trans (by unfold gimpl_NatAdd; rw [impl_NatAdd.eq])
theorem oimpl_NatAdd (N : Nat) : CalleeOK gd P 19 (mkCallee false pimpl_NatAdd (gimpl_NatAdd N)) :=
  callee_ok fun v K h => fn_snd hE hP (hct37 N) Try.func19 (by kernel_rfl) (body := bimpl_NatAdd) (by kernel_rfl) (by kernel_rfl) (AllOK.of (F := iimpl_NatAdd N) (l := []) (by kernel_rfl) .nil) (loans := BP.mkL pimpl_NatAdd.store v.2) rfl ((eimpl_NatAdd N v K).trans h)
noncomputable def ct38 (N : Nat) : CT := (19, (mkCallee false pimpl_NatAdd (gimpl_NatAdd N))) :: ct37 N
theorem hct38 (N : Nat) : CTOK gd P (ct38 N) := .cons (oimpl_NatAdd N) (hct37 N)

noncomputable def ilaws_FnNatRoot (N : Nat) : Fi := { loans := 0, owns := true, results := [.tmp 2], rtys := [4], blks := [], regs := [], masks := [] }
noncomputable def blaws_FnNatRoot : Code := match Try.f7.body with | some c => c | none => .skip
noncomputable def plaws_FnNatRoot : Pt := ⟨[(.i (.sl (.int .u8)))], []⟩
noncomputable def glaws_FnNatRoot (N : Nat) {α : Type} (v : plaws_FnNatRoot.V) (K : HV → List Blk → Option α) : Option α := laws_FnNatRoot N v.1.1 (fun o0_0 => K (.iv .bool o0_0) [])
theorem elaws_FnNatRoot.b (N : Nat) {α : Type} (v : plaws_FnNatRoot.V) (K : HV → List Blk → Option α) : runFn env (ct38 N) (ilaws_FnNatRoot N) Try.f7 (SP.mkL plaws_FnNatRoot.slots v.1) (BP.mkL plaws_FnNatRoot.store v.2) K = laws_FnNatRoot.b N v.1.1 (fun o0_0 => K (.iv .bool o0_0) []) := by kernel_rfl
theorem elaws_FnNatRoot (N : Nat) {α : Type} (v : plaws_FnNatRoot.V) (K : HV → List Blk → Option α) : runFn env (ct38 N) (ilaws_FnNatRoot N) Try.f7 (SP.mkL plaws_FnNatRoot.slots v.1) (BP.mkL plaws_FnNatRoot.store v.2) K = glaws_FnNatRoot N v K := (elaws_FnNatRoot.b N v K).trans (by unfold glaws_FnNatRoot; rw [laws_FnNatRoot.eq])
theorem olaws_FnNatRoot (N : Nat) : CalleeOK gd P 7 (mkCallee false plaws_FnNatRoot (glaws_FnNatRoot N)) :=
  callee_ok fun v K h => fn_snd hE hP (hct38 N) Try.func7 (by kernel_rfl) (body := blaws_FnNatRoot) (by kernel_rfl) (by kernel_rfl) (AllOK.of (F := ilaws_FnNatRoot N) (l := []) (by kernel_rfl) .nil) (loans := BP.mkL plaws_FnNatRoot.store v.2) rfl ((elaws_FnNatRoot N v K).trans h)
noncomputable def ct39 (N : Nat) : CT := (7, (mkCallee false plaws_FnNatRoot (glaws_FnNatRoot N))) :: ct38 N
theorem hct39 (N : Nat) : CTOK gd P (ct39 N) := .cons (olaws_FnNatRoot N) (hct38 N)

end
end
end Go.Proofs.YtgabephijgjogaaAm
