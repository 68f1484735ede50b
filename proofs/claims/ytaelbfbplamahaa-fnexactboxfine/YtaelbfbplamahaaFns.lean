/-
  The functions that the program computes, as the abstract machine tells them. Printed by amp.py.
-/
import Derived.Test.YtaelbfbplamahaaAmb
namespace Go.Proofs.YtaelbfbplamahaaAm
open Go
noncomputable section
set_option linter.unusedVariables false
set_option linter.unusedSimpArgs false

/-- loop.example/pinfold/laws.szPairS -/
noncomputable def laws_szPairS.b {α : Type} (N : Nat) (a6 : List (Int × Int × Unit)) (a7 : Int) (k0 : Int → Option α) : Option α :=
  let x8 := ((a6.length : Nat) : Int)
  let x9 := IntKind.i64.wrap (a7 - x8)
  let x10 := (decide (x9 < (0 : Int)))
  bif x10 then
    k0 (-1 : Int)
  else
    k0 x9
theorem laws_szPairS.ex : ∃ f : ((α : Type) → Nat → List (Int × Int × Unit) → Int → (Int → Option α) → Option α), f = fun α => @laws_szPairS.b α := ⟨_, rfl⟩
noncomputable def laws_szPairS {α : Type} : Nat → List (Int × Int × Unit) → Int → (Int → Option α) → Option α := Classical.choose laws_szPairS.ex α
theorem laws_szPairS.eq : @laws_szPairS = @laws_szPairS.b := funext fun α => congrFun (Classical.choose_spec laws_szPairS.ex) α

/-- loop.example/pinfold/laws.szBox -/
noncomputable def laws_szBox.b {α : Type} (N : Nat) (a4 : (List (Int × Int × Unit)) × Unit) (a5 : Int) (k0 : Int → Option α) : Option α :=
  laws_szPairS N a4.1 a5
    (fun x11 =>
      let x12 := (decide (x11 < (0 : Int)))
      bif x12 then
        k0 (-1 : Int)
      else
        k0 x11)
theorem laws_szBox.ex : ∃ f : ((α : Type) → Nat → ((List (Int × Int × Unit)) × Unit) → Int → (Int → Option α) → Option α), f = fun α => @laws_szBox.b α := ⟨_, rfl⟩
noncomputable def laws_szBox {α : Type} : Nat → ((List (Int × Int × Unit)) × Unit) → Int → (Int → Option α) → Option α := Classical.choose laws_szBox.ex α
theorem laws_szBox.eq : @laws_szBox = @laws_szBox.b := funext fun α => congrFun (Classical.choose_spec laws_szBox.ex) α

/-- loop.example/pinfold/laws.toPair -/
noncomputable def laws_toPair.b {α : Type} (N : Nat) (a25 : Int × Int × Unit) (k0 : (Int × Int × Unit) → Option α) : Option α :=
  k0 (a25.1, (a25.2.1, ()))
theorem laws_toPair.ex : ∃ f : ((α : Type) → Nat → (Int × Int × Unit) → ((Int × Int × Unit) → Option α) → Option α), f = fun α => @laws_toPair.b α := ⟨_, rfl⟩
noncomputable def laws_toPair {α : Type} : Nat → (Int × Int × Unit) → ((Int × Int × Unit) → Option α) → Option α := Classical.choose laws_toPair.ex α
theorem laws_toPair.eq : @laws_toPair = @laws_toPair.b := funext fun α => congrFun (Classical.choose_spec laws_toPair.ex) α

noncomputable def laws_toPairS_L0r {α : Type} (N : Nat) (next : List (Int × Int × Unit) → Int → List (Int × Int × Unit) → Option α) (k0 : List (Int × Int × Unit) → Option α) (v19 : List (Int × Int × Unit)) (v20 : Int) (v21 : List (Int × Int × Unit)) : Option α :=
  let x22 := ((v19.length : Nat) : Int)
  let x23 := decide (v20 < x22)
  bif x23 then
    bif (decide (v20 < (0 : Int))) then
      none
    else
      match v19[v20.toNat]? with
      | some x24 =>
        laws_toPair N x24
          (fun x26 =>
            bif (decide (v20 < (0 : Int))) then
              none
            else
              bif decide (v20.toNat < v21.length) then
                match v21[v20.toNat]? with
                | some x27 =>
                  let x28 := v21.set v20.toNat x26
                  let x29 := (IntKind.i64.wrap (v20 + (1 : Int)))
                  next v19 x29 x28
                | none => none
              else
                none)
      | none => none
  else
    k0 v21
noncomputable def laws_toPairS_L0.b {α : Type} (N n : Nat) (v19 : List (Int × Int × Unit)) (v20 : Int) (v21 : List (Int × Int × Unit)) (k0 : List (Int × Int × Unit) → Option α) : Option α :=
  Nat.rec (motive := fun _ => List (Int × Int × Unit) → Int → List (Int × Int × Unit) → Option α) (fun _ _ _ => none) (fun _ next => laws_toPairS_L0r N next k0) n v19 v20 v21
theorem laws_toPairS_L0.ex : ∃ f : ((α : Type) → Nat → Nat → List (Int × Int × Unit) → Int → List (Int × Int × Unit) → (List (Int × Int × Unit) → Option α) → Option α), f = fun α => @laws_toPairS_L0.b α := ⟨_, rfl⟩
noncomputable def laws_toPairS_L0 {α : Type} : Nat → Nat → List (Int × Int × Unit) → Int → List (Int × Int × Unit) → (List (Int × Int × Unit) → Option α) → Option α := Classical.choose laws_toPairS_L0.ex α
theorem laws_toPairS_L0.eq : @laws_toPairS_L0 = @laws_toPairS_L0.b := funext fun α => congrFun (Classical.choose_spec laws_toPairS_L0.ex) α
theorem laws_toPairS_L0.zero {α : Type} (N : Nat) (v19 : List (Int × Int × Unit)) (v20 : Int) (v21 : List (Int × Int × Unit)) (k0 : List (Int × Int × Unit) → Option α) : laws_toPairS_L0 N 0 v19 v20 v21 k0 = none := by rw [laws_toPairS_L0.eq]; rfl
theorem laws_toPairS_L0.succ {α : Type} (N n : Nat) (v19 : List (Int × Int × Unit)) (v20 : Int) (v21 : List (Int × Int × Unit)) (k0 : List (Int × Int × Unit) → Option α) : laws_toPairS_L0 N (n + 1) v19 v20 v21 k0 = laws_toPairS_L0r N (fun y0 y1 y2 => laws_toPairS_L0 N n y0 y1 y2 k0) k0 v19 v20 v21 := by rw [laws_toPairS_L0.eq]; rfl
/-- loop.example/pinfold/laws.toPairS -/
noncomputable def laws_toPairS.b {α : Type} (N : Nat) (a16 : List (Int × Int × Unit)) (k0 : List (Int × Int × Unit) → Option α) : Option α :=
  let x17 := ((a16.length : Nat) : Int)
  bif (decide ((0 : Int) ≤ x17)) then
    bif decide (x17 ≤ x17) then
      bif (decide (x17 ≤ ((8796093022208 : Nat) : Int))) then
        let x18 := (List.replicate x17.toNat ((0 : Int), ((0 : Int), ())))
        laws_toPairS_L0 N N a16 (0 : Int) x18
          (fun x30 =>
            k0 x30)
      else
        none
    else
      none
  else
    none
theorem laws_toPairS.ex : ∃ f : ((α : Type) → Nat → List (Int × Int × Unit) → (List (Int × Int × Unit) → Option α) → Option α), f = fun α => @laws_toPairS.b α := ⟨_, rfl⟩
noncomputable def laws_toPairS {α : Type} : Nat → List (Int × Int × Unit) → (List (Int × Int × Unit) → Option α) → Option α := Classical.choose laws_toPairS.ex α
theorem laws_toPairS.eq : @laws_toPairS = @laws_toPairS.b := funext fun α => congrFun (Classical.choose_spec laws_toPairS.ex) α

/-- loop.example/pinfold/laws.toBox -/
noncomputable def laws_toBox.b {α : Type} (N : Nat) (a15 : (List (Int × Int × Unit)) × Unit) (k0 : List (Int × Int × Unit) → Option α) : Option α :=
  laws_toPairS N a15.1
    (fun x31 =>
      k0 x31)
theorem laws_toBox.ex : ∃ f : ((α : Type) → Nat → ((List (Int × Int × Unit)) × Unit) → (List (Int × Int × Unit) → Option α) → Option α), f = fun α => @laws_toBox.b α := ⟨_, rfl⟩
noncomputable def laws_toBox {α : Type} : Nat → ((List (Int × Int × Unit)) × Unit) → (List (Int × Int × Unit) → Option α) → Option α := Classical.choose laws_toBox.ex α
theorem laws_toBox.eq : @laws_toBox = @laws_toBox.b := funext fun α => congrFun (Classical.choose_spec laws_toBox.ex) α

/-- loop.example/pinfold/spec.BitTop -/
noncomputable def spec_BitTop.b {α : Type} (N : Nat) (a50 : Int) (k0 : Int → Option α) : Option α :=
  let x51 := (decide (a50 = (32 : Int)))
  bif x51 then
    k0 (2139095040 : Int)
  else
    let x52 := (decide (a50 = (64 : Int)))
    bif x52 then
      k0 (9218868437227405312 : Int)
    else
      k0 (0 : Int)
theorem spec_BitTop.ex : ∃ f : ((α : Type) → Nat → Int → (Int → Option α) → Option α), f = fun α => @spec_BitTop.b α := ⟨_, rfl⟩
noncomputable def spec_BitTop {α : Type} : Nat → Int → (Int → Option α) → Option α := Classical.choose spec_BitTop.ex α
theorem spec_BitTop.eq : @spec_BitTop = @spec_BitTop.b := funext fun α => congrFun (Classical.choose_spec spec_BitTop.ex) α

/-- loop.example/pinfold/spec.l1Width -/
noncomputable def spec_l1Width.b {α : Type} (N : Nat) (a56 : Int) (k0 : Bool → Option α) : Option α :=
  let x57 := (decide (a56 = (32 : Int)))
  bif x57 then
    k0 true
  else
    let x58 := (decide (a56 = (64 : Int)))
    k0 x58
theorem spec_l1Width.ex : ∃ f : ((α : Type) → Nat → Int → (Bool → Option α) → Option α), f = fun α => @spec_l1Width.b α := ⟨_, rfl⟩
noncomputable def spec_l1Width {α : Type} : Nat → Int → (Bool → Option α) → Option α := Classical.choose spec_l1Width.ex α
theorem spec_l1Width.eq : @spec_l1Width = @spec_l1Width.b := funext fun α => congrFun (Classical.choose_spec spec_l1Width.ex) α

/-- loop.example/pinfold/spec.BitOk -/
noncomputable def spec_BitOk.b {α : Type} (N : Nat) (a54 : Int) (a55 : Int) (k0 : Bool → Option α) : Option α :=
  spec_l1Width N a54
    (fun x59 =>
      bif x59 then
        spec_BitTop N a54
          (fun x60 =>
            let x61 := IntKind.i64.wrap (0 - x60)
            let x62 := decide (x61 ≤ a55)
            bif x62 then
              spec_BitTop N a54
                (fun x63 =>
                  let x64 := decide (a55 ≤ x63)
                  k0 x64)
            else
              k0 false)
      else
        k0 false)
theorem spec_BitOk.ex : ∃ f : ((α : Type) → Nat → Int → Int → (Bool → Option α) → Option α), f = fun α => @spec_BitOk.b α := ⟨_, rfl⟩
noncomputable def spec_BitOk {α : Type} : Nat → Int → Int → (Bool → Option α) → Option α := Classical.choose spec_BitOk.ex α
theorem spec_BitOk.eq : @spec_BitOk = @spec_BitOk.b := funext fun α => congrFun (Classical.choose_spec spec_BitOk.ex) α

/-- loop.example/pinfold/spec.PairOk -/
noncomputable def spec_PairOk.b {α : Type} (N : Nat) (a48 : Int) (a49 : Int × Int × Unit) (k0 : Bool → Option α) : Option α :=
  spec_BitTop N a48
    (fun x53 =>
      spec_BitOk N a48 a49.1
        (fun x65 =>
          bif x65 then
            spec_BitOk N a48 a49.2.1
              (fun x66 =>
                bif x66 then
                  let x67 := decide (a49.1 ≤ a49.2.1)
                  bif x67 then
                    let x68 := decide (a49.1 < x53)
                    bif x68 then
                      let x69 := IntKind.i64.wrap (0 - x53)
                      let x70 := decide (x69 < a49.2.1)
                      k0 x70
                    else
                      k0 false
                  else
                    k0 false
                else
                  k0 false)
          else
            k0 false))
theorem spec_PairOk.ex : ∃ f : ((α : Type) → Nat → Int → (Int × Int × Unit) → (Bool → Option α) → Option α), f = fun α => @spec_PairOk.b α := ⟨_, rfl⟩
noncomputable def spec_PairOk {α : Type} : Nat → Int → (Int × Int × Unit) → (Bool → Option α) → Option α := Classical.choose spec_PairOk.ex α
theorem spec_PairOk.eq : @spec_PairOk = @spec_PairOk.b := funext fun α => congrFun (Classical.choose_spec spec_PairOk.ex) α

noncomputable def spec_BoxOk_L0r {α : Type} (N : Nat) (next : Int → Int → ((List (Int × Int × Unit)) × Unit) → Option α) (k0 : Bool → Option α) (k1 : Option α) (v42 : Int) (v43 : Int) (v44 : (List (Int × Int × Unit)) × Unit) : Option α :=
  let x45 := ((v44.1.length : Nat) : Int)
  let x46 := decide (v43 < x45)
  bif x46 then
    bif (decide (v43 < (0 : Int))) then
      none
    else
      match v44.1[v43.toNat]? with
      | some x47 =>
        spec_PairOk N v42 x47
          (fun x71 =>
            let x72 := !x71
            bif x72 then
              k0 false
            else
              let x73 := (IntKind.i64.wrap (v43 + (1 : Int)))
              next v42 x73 v44)
      | none => none
  else
    k1
noncomputable def spec_BoxOk_L0.b {α : Type} (N n : Nat) (v42 : Int) (v43 : Int) (v44 : (List (Int × Int × Unit)) × Unit) (k0 : Bool → Option α) (k1 : Option α) : Option α :=
  Nat.rec (motive := fun _ => Int → Int → ((List (Int × Int × Unit)) × Unit) → Option α) (fun _ _ _ => none) (fun _ next => spec_BoxOk_L0r N next k0 k1) n v42 v43 v44
theorem spec_BoxOk_L0.ex : ∃ f : ((α : Type) → Nat → Nat → Int → Int → ((List (Int × Int × Unit)) × Unit) → (Bool → Option α) → (Option α) → Option α), f = fun α => @spec_BoxOk_L0.b α := ⟨_, rfl⟩
noncomputable def spec_BoxOk_L0 {α : Type} : Nat → Nat → Int → Int → ((List (Int × Int × Unit)) × Unit) → (Bool → Option α) → (Option α) → Option α := Classical.choose spec_BoxOk_L0.ex α
theorem spec_BoxOk_L0.eq : @spec_BoxOk_L0 = @spec_BoxOk_L0.b := funext fun α => congrFun (Classical.choose_spec spec_BoxOk_L0.ex) α
theorem spec_BoxOk_L0.zero {α : Type} (N : Nat) (v42 : Int) (v43 : Int) (v44 : (List (Int × Int × Unit)) × Unit) (k0 : Bool → Option α) (k1 : Option α) : spec_BoxOk_L0 N 0 v42 v43 v44 k0 k1 = none := by rw [spec_BoxOk_L0.eq]; rfl
theorem spec_BoxOk_L0.succ {α : Type} (N n : Nat) (v42 : Int) (v43 : Int) (v44 : (List (Int × Int × Unit)) × Unit) (k0 : Bool → Option α) (k1 : Option α) : spec_BoxOk_L0 N (n + 1) v42 v43 v44 k0 k1 = spec_BoxOk_L0r N (fun y0 y1 y2 => spec_BoxOk_L0 N n y0 y1 y2 k0 k1) k0 k1 v42 v43 v44 := by rw [spec_BoxOk_L0.eq]; rfl
/-- loop.example/pinfold/spec.BoxOk -/
noncomputable def spec_BoxOk.b {α : Type} (N : Nat) (a36 : Int) (a37 : (List (Int × Int × Unit)) × Unit) (k0 : Bool → Option α) : Option α :=
  let x38 := ((a37.1.length : Nat) : Int)
  let x39 := (decide (x38 < (1 : Int)))
  bif x39 then
    k0 false
  else
    let x40 := ((a37.1.length : Nat) : Int)
    let x41 := (decide ((6 : Int) < x40))
    bif x41 then
      k0 false
    else
      spec_BoxOk_L0 N N a36 (0 : Int) a37
        (fun x74 =>
          k0 x74)
        (
          k0 true)
theorem spec_BoxOk.ex : ∃ f : ((α : Type) → Nat → Int → ((List (Int × Int × Unit)) × Unit) → (Bool → Option α) → Option α), f = fun α => @spec_BoxOk.b α := ⟨_, rfl⟩
noncomputable def spec_BoxOk {α : Type} : Nat → Int → ((List (Int × Int × Unit)) × Unit) → (Bool → Option α) → Option α := Classical.choose spec_BoxOk.ex α
theorem spec_BoxOk.eq : @spec_BoxOk = @spec_BoxOk.b := funext fun α => congrFun (Classical.choose_spec spec_BoxOk.ex) α

/-- loop.example/pinfold/spec.l3Max -/
noncomputable def spec_l3Max.b {α : Type} (N : Nat) (a77 : Int) (a78 : Int) (k0 : Int → Option α) : Option α :=
  let x79 := decide (a78 < a77)
  bif x79 then
    k0 a77
  else
    k0 a78
theorem spec_l3Max.ex : ∃ f : ((α : Type) → Nat → Int → Int → (Int → Option α) → Option α), f = fun α => @spec_l3Max.b α := ⟨_, rfl⟩
noncomputable def spec_l3Max {α : Type} : Nat → Int → Int → (Int → Option α) → Option α := Classical.choose spec_l3Max.ex α
theorem spec_l3Max.eq : @spec_l3Max = @spec_l3Max.b := funext fun α => congrFun (Classical.choose_spec spec_l3Max.ex) α

/-- loop.example/pinfold/spec.l3Min -/
noncomputable def spec_l3Min.b {α : Type} (N : Nat) (a81 : Int) (a82 : Int) (k0 : Int → Option α) : Option α :=
  let x83 := decide (a81 < a82)
  bif x83 then
    k0 a81
  else
    k0 a82
theorem spec_l3Min.ex : ∃ f : ((α : Type) → Nat → Int → Int → (Int → Option α) → Option α), f = fun α => @spec_l3Min.b α := ⟨_, rfl⟩
noncomputable def spec_l3Min {α : Type} : Nat → Int → Int → (Int → Option α) → Option α := Classical.choose spec_l3Min.ex α
theorem spec_l3Min.eq : @spec_l3Min = @spec_l3Min.b := funext fun α => congrFun (Classical.choose_spec spec_l3Min.ex) α

/-- loop.example/pinfold/spec.BitGap -/
noncomputable def spec_BitGap.b {α : Type} (N : Nat) (a94 : Int) (a95 : Int) (k0 : Int → Option α) : Option α :=
  let x96 := decide (a95 < a94)
  bif x96 then
    k0 (0 : Int)
  else
    let x97 := IntKind.u64.wrap a95
    let x98 := IntKind.u64.wrap a94
    let x99 := IntKind.u64.wrap (x97 - x98)
    k0 x99
theorem spec_BitGap.ex : ∃ f : ((α : Type) → Nat → Int → Int → (Int → Option α) → Option α), f = fun α => @spec_BitGap.b α := ⟨_, rfl⟩
noncomputable def spec_BitGap {α : Type} : Nat → Int → Int → (Int → Option α) → Option α := Classical.choose spec_BitGap.ex α
theorem spec_BitGap.eq : @spec_BitGap = @spec_BitGap.b := funext fun α => congrFun (Classical.choose_spec spec_BitGap.ex) α

/-- loop.example/pinfold/spec.l3Gap -/
noncomputable def spec_l3Gap.b {α : Type} (N : Nat) (a93 : Int × Int × Unit) (k0 : Int → Option α) : Option α :=
  spec_BitGap N a93.1 a93.2.1
    (fun x100 =>
      k0 x100)
theorem spec_l3Gap.ex : ∃ f : ((α : Type) → Nat → (Int × Int × Unit) → (Int → Option α) → Option α), f = fun α => @spec_l3Gap.b α := ⟨_, rfl⟩
noncomputable def spec_l3Gap {α : Type} : Nat → (Int × Int × Unit) → (Int → Option α) → Option α := Classical.choose spec_l3Gap.ex α
theorem spec_l3Gap.eq : @spec_l3Gap = @spec_l3Gap.b := funext fun α => congrFun (Classical.choose_spec spec_l3Gap.ex) α

noncomputable def spec_BoxFine_L0r {α : Type} (N : Nat) (next : Int → Int → ((List (Int × Int × Unit)) × Unit) → Option α) (k0 : Bool → Option α) (k1 : Option α) (v87 : Int) (v88 : Int) (v89 : (List (Int × Int × Unit)) × Unit) : Option α :=
  let x90 := ((v89.1.length : Nat) : Int)
  let x91 := decide (v88 < x90)
  bif x91 then
    bif (decide (v88 < (0 : Int))) then
      none
    else
      match v89.1[v88.toNat]? with
      | some x92 =>
        spec_l3Gap N x92
          (fun x101 =>
            let x102 := decide (v87 < x101)
            bif x102 then
              k0 false
            else
              let x103 := (IntKind.i64.wrap (v88 + (1 : Int)))
              next v87 x103 v89)
      | none => none
  else
    k1
noncomputable def spec_BoxFine_L0.b {α : Type} (N n : Nat) (v87 : Int) (v88 : Int) (v89 : (List (Int × Int × Unit)) × Unit) (k0 : Bool → Option α) (k1 : Option α) : Option α :=
  Nat.rec (motive := fun _ => Int → Int → ((List (Int × Int × Unit)) × Unit) → Option α) (fun _ _ _ => none) (fun _ next => spec_BoxFine_L0r N next k0 k1) n v87 v88 v89
theorem spec_BoxFine_L0.ex : ∃ f : ((α : Type) → Nat → Nat → Int → Int → ((List (Int × Int × Unit)) × Unit) → (Bool → Option α) → (Option α) → Option α), f = fun α => @spec_BoxFine_L0.b α := ⟨_, rfl⟩
noncomputable def spec_BoxFine_L0 {α : Type} : Nat → Nat → Int → Int → ((List (Int × Int × Unit)) × Unit) → (Bool → Option α) → (Option α) → Option α := Classical.choose spec_BoxFine_L0.ex α
theorem spec_BoxFine_L0.eq : @spec_BoxFine_L0 = @spec_BoxFine_L0.b := funext fun α => congrFun (Classical.choose_spec spec_BoxFine_L0.ex) α
theorem spec_BoxFine_L0.zero {α : Type} (N : Nat) (v87 : Int) (v88 : Int) (v89 : (List (Int × Int × Unit)) × Unit) (k0 : Bool → Option α) (k1 : Option α) : spec_BoxFine_L0 N 0 v87 v88 v89 k0 k1 = none := by rw [spec_BoxFine_L0.eq]; rfl
theorem spec_BoxFine_L0.succ {α : Type} (N n : Nat) (v87 : Int) (v88 : Int) (v89 : (List (Int × Int × Unit)) × Unit) (k0 : Bool → Option α) (k1 : Option α) : spec_BoxFine_L0 N (n + 1) v87 v88 v89 k0 k1 = spec_BoxFine_L0r N (fun y0 y1 y2 => spec_BoxFine_L0 N n y0 y1 y2 k0 k1) k0 k1 v87 v88 v89 := by rw [spec_BoxFine_L0.eq]; rfl
/-- loop.example/pinfold/spec.BoxFine -/
noncomputable def spec_BoxFine.b {α : Type} (N : Nat) (a33 : Int) (a34 : (List (Int × Int × Unit)) × Unit) (a35 : Int) (k0 : Bool → Option α) : Option α :=
  spec_BoxOk N a33 a34
    (fun x75 =>
      let x76 := !x75
      bif x76 then
        k0 false
      else
        spec_l3Max N a35 (1 : Int)
          (fun x80 =>
            spec_l3Min N x80 (1000000 : Int)
              (fun x84 =>
                let x85 := IntKind.u64.wrap x84
                let x86 := (IntKind.u64.wrap (x85 + (1 : Int)))
                spec_BoxFine_L0 N N x86 (0 : Int) a34
                  (fun x104 =>
                    k0 x104)
                  (
                    k0 true))))
theorem spec_BoxFine.ex : ∃ f : ((α : Type) → Nat → Int → ((List (Int × Int × Unit)) × Unit) → Int → (Bool → Option α) → Option α), f = fun α => @spec_BoxFine.b α := ⟨_, rfl⟩
noncomputable def spec_BoxFine {α : Type} : Nat → Int → ((List (Int × Int × Unit)) × Unit) → Int → (Bool → Option α) → Option α := Classical.choose spec_BoxFine.ex α
theorem spec_BoxFine.eq : @spec_BoxFine = @spec_BoxFine.b := funext fun α => congrFun (Classical.choose_spec spec_BoxFine.ex) α

/-- loop.example/pinfold/impl.in -/
noncomputable def impl_in.b {α : Type} (N : Nat) (a117 : Int) (a118 : Int) (a119 : Int) (k0 : Bool → Option α) : Option α :=
  let x120 := decide (a118 ≤ a117)
  bif x120 then
    let x121 := decide (a117 ≤ a119)
    k0 x121
  else
    k0 false
theorem impl_in.ex : ∃ f : ((α : Type) → Nat → Int → Int → Int → (Bool → Option α) → Option α), f = fun α => @impl_in.b α := ⟨_, rfl⟩
noncomputable def impl_in {α : Type} : Nat → Int → Int → Int → (Bool → Option α) → Option α := Classical.choose impl_in.ex α
theorem impl_in.eq : @impl_in = @impl_in.b := funext fun α => congrFun (Classical.choose_spec impl_in.ex) α

/-- loop.example/pinfold/impl.formatOf -/
noncomputable def impl_formatOf.b {α : Type} (N : Nat) (a139 : Int) (k0 : (Int × Int × Int × Int × Unit) → Bool → Option α) : Option α :=
  let x140 := (decide (a139 = (32 : Int)))
  bif x140 then
    k0 ((23 : Int), ((-149 : Int), ((127 : Int), ((2139095040 : Int), ())))) true
  else
    let x141 := (decide (a139 = (64 : Int)))
    bif x141 then
      k0 ((52 : Int), ((-1074 : Int), ((1023 : Int), ((9218868437227405312 : Int), ())))) true
    else
      k0 ((0 : Int), ((0 : Int), ((0 : Int), ((0 : Int), ())))) false
theorem impl_formatOf.ex : ∃ f : ((α : Type) → Nat → Int → ((Int × Int × Int × Int × Unit) → Bool → Option α) → Option α), f = fun α => @impl_formatOf.b α := ⟨_, rfl⟩
noncomputable def impl_formatOf {α : Type} : Nat → Int → ((Int × Int × Int × Int × Unit) → Bool → Option α) → Option α := Classical.choose impl_formatOf.ex α
theorem impl_formatOf.eq : @impl_formatOf = @impl_formatOf.b := funext fun α => congrFun (Classical.choose_spec impl_formatOf.ex) α

/-- loop.example/pinfold/impl.BitTop -/
noncomputable def impl_BitTop.b {α : Type} (N : Nat) (a138 : Int) (k0 : Int → Option α) : Option α :=
  impl_formatOf N a138
    (fun x142 _ =>
      k0 x142.2.2.2.1)
theorem impl_BitTop.ex : ∃ f : ((α : Type) → Nat → Int → (Int → Option α) → Option α), f = fun α => @impl_BitTop.b α := ⟨_, rfl⟩
noncomputable def impl_BitTop {α : Type} : Nat → Int → (Int → Option α) → Option α := Classical.choose impl_BitTop.ex α
theorem impl_BitTop.eq : @impl_BitTop = @impl_BitTop.b := funext fun α => congrFun (Classical.choose_spec impl_BitTop.ex) α

/-- loop.example/pinfold/impl.BitOk -/
noncomputable def impl_BitOk.b {α : Type} (N : Nat) (a145 : Int) (a146 : Int) (k0 : Bool → Option α) : Option α :=
  impl_formatOf N a145
    (fun x147 x148 =>
      bif x148 then
        let x149 := IntKind.i64.wrap (0 - x147.2.2.2.1)
        impl_in N a146 x149 x147.2.2.2.1
          (fun x150 =>
            k0 x150)
      else
        k0 false)
theorem impl_BitOk.ex : ∃ f : ((α : Type) → Nat → Int → Int → (Bool → Option α) → Option α), f = fun α => @impl_BitOk.b α := ⟨_, rfl⟩
noncomputable def impl_BitOk {α : Type} : Nat → Int → Int → (Bool → Option α) → Option α := Classical.choose impl_BitOk.ex α
theorem impl_BitOk.eq : @impl_BitOk = @impl_BitOk.b := funext fun α => congrFun (Classical.choose_spec impl_BitOk.ex) α

/-- loop.example/pinfold/impl.PairOk -/
noncomputable def impl_PairOk.b {α : Type} (N : Nat) (a136 : Int) (a137 : Int × Int × Unit) (k0 : Bool → Option α) : Option α :=
  impl_BitTop N a136
    (fun x144 =>
      impl_BitOk N a136 a137.1
        (fun x151 =>
          bif x151 then
            impl_BitOk N a136 a137.2.1
              (fun x152 =>
                bif x152 then
                  let x153 := decide (a137.1 ≤ a137.2.1)
                  bif x153 then
                    let x154 := !(decide (a137.1 = x144))
                    bif x154 then
                      let x155 := IntKind.i64.wrap (0 - x144)
                      let x156 := !(decide (a137.2.1 = x155))
                      k0 x156
                    else
                      k0 false
                  else
                    k0 false
                else
                  k0 false)
          else
            k0 false))
theorem impl_PairOk.ex : ∃ f : ((α : Type) → Nat → Int → (Int × Int × Unit) → (Bool → Option α) → Option α), f = fun α => @impl_PairOk.b α := ⟨_, rfl⟩
noncomputable def impl_PairOk {α : Type} : Nat → Int → (Int × Int × Unit) → (Bool → Option α) → Option α := Classical.choose impl_PairOk.ex α
theorem impl_PairOk.eq : @impl_PairOk = @impl_PairOk.b := funext fun α => congrFun (Classical.choose_spec impl_PairOk.ex) α

/-- loop.example/pinfold/impl.BoxOk$1 -/
noncomputable def impl_BoxOk_1.b {α : Type} (N : Nat) (a134 : Int × Int × Unit) (a135 : Int) (k0 : Bool → Option α) : Option α :=
  impl_PairOk N a135 a134
    (fun x157 =>
      let x158 := !x157
      k0 x158)
theorem impl_BoxOk_1.ex : ∃ f : ((α : Type) → Nat → (Int × Int × Unit) → Int → (Bool → Option α) → Option α), f = fun α => @impl_BoxOk_1.b α := ⟨_, rfl⟩
noncomputable def impl_BoxOk_1 {α : Type} : Nat → (Int × Int × Unit) → Int → (Bool → Option α) → Option α := Classical.choose impl_BoxOk_1.ex α
theorem impl_BoxOk_1.eq : @impl_BoxOk_1 = @impl_BoxOk_1.b := funext fun α => congrFun (Classical.choose_spec impl_BoxOk_1.ex) α

noncomputable def slices_IndexFunc_impl_Pair_impl_Pair__impl_BoxOk_1_L0r {α : Type} (N : Nat) (next : List (Int × Int × Unit) → Int → Int → Int → Option α) (k0 : Int → Option α) (k1 : Option α) (v128 : List (Int × Int × Unit)) (v129 : Int) (v130 : Int) (v131 : Int) : Option α :=
  let x132 := decide (v131 < v130)
  bif x132 then
    bif (decide (v131 < (0 : Int))) then
      none
    else
      match v128[v131.toNat]? with
      | some x133 =>
        impl_BoxOk_1 N x133 v129
          (fun x159 =>
            bif x159 then
              k0 v131
            else
              let x160 := (IntKind.i64.wrap (v131 + (1 : Int)))
              next v128 v129 v130 x160)
      | none => none
  else
    k1
noncomputable def slices_IndexFunc_impl_Pair_impl_Pair__impl_BoxOk_1_L0.b {α : Type} (N n : Nat) (v128 : List (Int × Int × Unit)) (v129 : Int) (v130 : Int) (v131 : Int) (k0 : Int → Option α) (k1 : Option α) : Option α :=
  Nat.rec (motive := fun _ => List (Int × Int × Unit) → Int → Int → Int → Option α) (fun _ _ _ _ => none) (fun _ next => slices_IndexFunc_impl_Pair_impl_Pair__impl_BoxOk_1_L0r N next k0 k1) n v128 v129 v130 v131
theorem slices_IndexFunc_impl_Pair_impl_Pair__impl_BoxOk_1_L0.ex : ∃ f : ((α : Type) → Nat → Nat → List (Int × Int × Unit) → Int → Int → Int → (Int → Option α) → (Option α) → Option α), f = fun α => @slices_IndexFunc_impl_Pair_impl_Pair__impl_BoxOk_1_L0.b α := ⟨_, rfl⟩
noncomputable def slices_IndexFunc_impl_Pair_impl_Pair__impl_BoxOk_1_L0 {α : Type} : Nat → Nat → List (Int × Int × Unit) → Int → Int → Int → (Int → Option α) → (Option α) → Option α := Classical.choose slices_IndexFunc_impl_Pair_impl_Pair__impl_BoxOk_1_L0.ex α
theorem slices_IndexFunc_impl_Pair_impl_Pair__impl_BoxOk_1_L0.eq : @slices_IndexFunc_impl_Pair_impl_Pair__impl_BoxOk_1_L0 = @slices_IndexFunc_impl_Pair_impl_Pair__impl_BoxOk_1_L0.b := funext fun α => congrFun (Classical.choose_spec slices_IndexFunc_impl_Pair_impl_Pair__impl_BoxOk_1_L0.ex) α
theorem slices_IndexFunc_impl_Pair_impl_Pair__impl_BoxOk_1_L0.zero {α : Type} (N : Nat) (v128 : List (Int × Int × Unit)) (v129 : Int) (v130 : Int) (v131 : Int) (k0 : Int → Option α) (k1 : Option α) : slices_IndexFunc_impl_Pair_impl_Pair__impl_BoxOk_1_L0 N 0 v128 v129 v130 v131 k0 k1 = none := by rw [slices_IndexFunc_impl_Pair_impl_Pair__impl_BoxOk_1_L0.eq]; rfl
theorem slices_IndexFunc_impl_Pair_impl_Pair__impl_BoxOk_1_L0.succ {α : Type} (N n : Nat) (v128 : List (Int × Int × Unit)) (v129 : Int) (v130 : Int) (v131 : Int) (k0 : Int → Option α) (k1 : Option α) : slices_IndexFunc_impl_Pair_impl_Pair__impl_BoxOk_1_L0 N (n + 1) v128 v129 v130 v131 k0 k1 = slices_IndexFunc_impl_Pair_impl_Pair__impl_BoxOk_1_L0r N (fun y0 y1 y2 y3 => slices_IndexFunc_impl_Pair_impl_Pair__impl_BoxOk_1_L0 N n y0 y1 y2 y3 k0 k1) k0 k1 v128 v129 v130 v131 := by rw [slices_IndexFunc_impl_Pair_impl_Pair__impl_BoxOk_1_L0.eq]; rfl
/-- slices.IndexFunc[[]loop.example/pinfold/impl.Pair,loop.example/pinfold/impl.Pair] -/
noncomputable def slices_IndexFunc_impl_Pair_impl_Pair__impl_BoxOk_1.b {α : Type} (N : Nat) (a125 : List (Int × Int × Unit)) (a126 : Int) (k0 : Int → Option α) : Option α :=
  let x127 := ((a125.length : Nat) : Int)
  slices_IndexFunc_impl_Pair_impl_Pair__impl_BoxOk_1_L0 N N a125 a126 x127 (0 : Int)
    (fun x161 =>
      k0 x161)
    (
      k0 (-1 : Int))
theorem slices_IndexFunc_impl_Pair_impl_Pair__impl_BoxOk_1.ex : ∃ f : ((α : Type) → Nat → List (Int × Int × Unit) → Int → (Int → Option α) → Option α), f = fun α => @slices_IndexFunc_impl_Pair_impl_Pair__impl_BoxOk_1.b α := ⟨_, rfl⟩
noncomputable def slices_IndexFunc_impl_Pair_impl_Pair__impl_BoxOk_1 {α : Type} : Nat → List (Int × Int × Unit) → Int → (Int → Option α) → Option α := Classical.choose slices_IndexFunc_impl_Pair_impl_Pair__impl_BoxOk_1.ex α
theorem slices_IndexFunc_impl_Pair_impl_Pair__impl_BoxOk_1.eq : @slices_IndexFunc_impl_Pair_impl_Pair__impl_BoxOk_1 = @slices_IndexFunc_impl_Pair_impl_Pair__impl_BoxOk_1.b := funext fun α => congrFun (Classical.choose_spec slices_IndexFunc_impl_Pair_impl_Pair__impl_BoxOk_1.ex) α

/-- slices.ContainsFunc[[]loop.example/pinfold/impl.Pair,loop.example/pinfold/impl.Pair] -/
noncomputable def slices_ContainsFunc_impl_Pair_impl_Pair__impl_BoxOk_1.b {α : Type} (N : Nat) (a123 : List (Int × Int × Unit)) (a124 : Int) (k0 : Bool → Option α) : Option α :=
  slices_IndexFunc_impl_Pair_impl_Pair__impl_BoxOk_1 N a123 a124
    (fun x162 =>
      let x163 := (decide ((0 : Int) ≤ x162))
      k0 x163)
theorem slices_ContainsFunc_impl_Pair_impl_Pair__impl_BoxOk_1.ex : ∃ f : ((α : Type) → Nat → List (Int × Int × Unit) → Int → (Bool → Option α) → Option α), f = fun α => @slices_ContainsFunc_impl_Pair_impl_Pair__impl_BoxOk_1.b α := ⟨_, rfl⟩
noncomputable def slices_ContainsFunc_impl_Pair_impl_Pair__impl_BoxOk_1 {α : Type} : Nat → List (Int × Int × Unit) → Int → (Bool → Option α) → Option α := Classical.choose slices_ContainsFunc_impl_Pair_impl_Pair__impl_BoxOk_1.ex α
theorem slices_ContainsFunc_impl_Pair_impl_Pair__impl_BoxOk_1.eq : @slices_ContainsFunc_impl_Pair_impl_Pair__impl_BoxOk_1 = @slices_ContainsFunc_impl_Pair_impl_Pair__impl_BoxOk_1.b := funext fun α => congrFun (Classical.choose_spec slices_ContainsFunc_impl_Pair_impl_Pair__impl_BoxOk_1.ex) α

/-- loop.example/pinfold/impl.BoxOk -/
noncomputable def impl_BoxOk.b {α : Type} (N : Nat) (a114 : Int) (a115 : (List (Int × Int × Unit)) × Unit) (k0 : Bool → Option α) : Option α :=
  let x116 := ((a115.1.length : Nat) : Int)
  impl_in N x116 (1 : Int) (6 : Int)
    (fun x122 =>
      bif x122 then
        slices_ContainsFunc_impl_Pair_impl_Pair__impl_BoxOk_1 N a115.1 a114
          (fun x164 =>
            let x165 := !x164
            k0 x165)
      else
        k0 false)
theorem impl_BoxOk.ex : ∃ f : ((α : Type) → Nat → Int → ((List (Int × Int × Unit)) × Unit) → (Bool → Option α) → Option α), f = fun α => @impl_BoxOk.b α := ⟨_, rfl⟩
noncomputable def impl_BoxOk {α : Type} : Nat → Int → ((List (Int × Int × Unit)) × Unit) → (Bool → Option α) → Option α := Classical.choose impl_BoxOk.ex α
theorem impl_BoxOk.eq : @impl_BoxOk = @impl_BoxOk.b := funext fun α => congrFun (Classical.choose_spec impl_BoxOk.ex) α

/-- loop.example/pinfold/impl.BitGap -/
noncomputable def impl_BitGap.b {α : Type} (N : Nat) (a181 : Int) (a182 : Int) (k0 : Int → Option α) : Option α :=
  let x183 := decide (a182 < a181)
  bif x183 then
    k0 (0 : Int)
  else
    let x184 := IntKind.u64.wrap a182
    let x185 := IntKind.u64.wrap a181
    let x186 := IntKind.u64.wrap (x184 - x185)
    k0 x186
theorem impl_BitGap.ex : ∃ f : ((α : Type) → Nat → Int → Int → (Int → Option α) → Option α), f = fun α => @impl_BitGap.b α := ⟨_, rfl⟩
noncomputable def impl_BitGap {α : Type} : Nat → Int → Int → (Int → Option α) → Option α := Classical.choose impl_BitGap.ex α
theorem impl_BitGap.eq : @impl_BitGap = @impl_BitGap.b := funext fun α => congrFun (Classical.choose_spec impl_BitGap.ex) α

/-- (loop.example/pinfold/impl.Pair).steps -/
noncomputable def impl_Pair_steps.b {α : Type} (N : Nat) (a180 : Int × Int × Unit) (k0 : Int → Option α) : Option α :=
  impl_BitGap N a180.1 a180.2.1
    (fun x187 =>
      k0 x187)
theorem impl_Pair_steps.ex : ∃ f : ((α : Type) → Nat → (Int × Int × Unit) → (Int → Option α) → Option α), f = fun α => @impl_Pair_steps.b α := ⟨_, rfl⟩
noncomputable def impl_Pair_steps {α : Type} : Nat → (Int × Int × Unit) → (Int → Option α) → Option α := Classical.choose impl_Pair_steps.ex α
theorem impl_Pair_steps.eq : @impl_Pair_steps = @impl_Pair_steps.b := funext fun α => congrFun (Classical.choose_spec impl_Pair_steps.ex) α

/-- loop.example/pinfold/impl.BoxFine$1 -/
noncomputable def impl_BoxFine_1.b {α : Type} (N : Nat) (a178 : Int × Int × Unit) (a179 : Int) (k0 : Bool → Option α) : Option α :=
  impl_Pair_steps N a178
    (fun x188 =>
      let x189 := decide (a179 < x188)
      k0 x189)
theorem impl_BoxFine_1.ex : ∃ f : ((α : Type) → Nat → (Int × Int × Unit) → Int → (Bool → Option α) → Option α), f = fun α => @impl_BoxFine_1.b α := ⟨_, rfl⟩
noncomputable def impl_BoxFine_1 {α : Type} : Nat → (Int × Int × Unit) → Int → (Bool → Option α) → Option α := Classical.choose impl_BoxFine_1.ex α
theorem impl_BoxFine_1.eq : @impl_BoxFine_1 = @impl_BoxFine_1.b := funext fun α => congrFun (Classical.choose_spec impl_BoxFine_1.ex) α

noncomputable def slices_IndexFunc_impl_Pair_impl_Pair__impl_BoxFine_1_L0r {α : Type} (N : Nat) (next : List (Int × Int × Unit) → Int → Int → Int → Option α) (k0 : Int → Option α) (k1 : Option α) (v172 : List (Int × Int × Unit)) (v173 : Int) (v174 : Int) (v175 : Int) : Option α :=
  let x176 := decide (v175 < v174)
  bif x176 then
    bif (decide (v175 < (0 : Int))) then
      none
    else
      match v172[v175.toNat]? with
      | some x177 =>
        impl_BoxFine_1 N x177 v173
          (fun x190 =>
            bif x190 then
              k0 v175
            else
              let x191 := (IntKind.i64.wrap (v175 + (1 : Int)))
              next v172 v173 v174 x191)
      | none => none
  else
    k1
noncomputable def slices_IndexFunc_impl_Pair_impl_Pair__impl_BoxFine_1_L0.b {α : Type} (N n : Nat) (v172 : List (Int × Int × Unit)) (v173 : Int) (v174 : Int) (v175 : Int) (k0 : Int → Option α) (k1 : Option α) : Option α :=
  Nat.rec (motive := fun _ => List (Int × Int × Unit) → Int → Int → Int → Option α) (fun _ _ _ _ => none) (fun _ next => slices_IndexFunc_impl_Pair_impl_Pair__impl_BoxFine_1_L0r N next k0 k1) n v172 v173 v174 v175
theorem slices_IndexFunc_impl_Pair_impl_Pair__impl_BoxFine_1_L0.ex : ∃ f : ((α : Type) → Nat → Nat → List (Int × Int × Unit) → Int → Int → Int → (Int → Option α) → (Option α) → Option α), f = fun α => @slices_IndexFunc_impl_Pair_impl_Pair__impl_BoxFine_1_L0.b α := ⟨_, rfl⟩
noncomputable def slices_IndexFunc_impl_Pair_impl_Pair__impl_BoxFine_1_L0 {α : Type} : Nat → Nat → List (Int × Int × Unit) → Int → Int → Int → (Int → Option α) → (Option α) → Option α := Classical.choose slices_IndexFunc_impl_Pair_impl_Pair__impl_BoxFine_1_L0.ex α
theorem slices_IndexFunc_impl_Pair_impl_Pair__impl_BoxFine_1_L0.eq : @slices_IndexFunc_impl_Pair_impl_Pair__impl_BoxFine_1_L0 = @slices_IndexFunc_impl_Pair_impl_Pair__impl_BoxFine_1_L0.b := funext fun α => congrFun (Classical.choose_spec slices_IndexFunc_impl_Pair_impl_Pair__impl_BoxFine_1_L0.ex) α
theorem slices_IndexFunc_impl_Pair_impl_Pair__impl_BoxFine_1_L0.zero {α : Type} (N : Nat) (v172 : List (Int × Int × Unit)) (v173 : Int) (v174 : Int) (v175 : Int) (k0 : Int → Option α) (k1 : Option α) : slices_IndexFunc_impl_Pair_impl_Pair__impl_BoxFine_1_L0 N 0 v172 v173 v174 v175 k0 k1 = none := by rw [slices_IndexFunc_impl_Pair_impl_Pair__impl_BoxFine_1_L0.eq]; rfl
theorem slices_IndexFunc_impl_Pair_impl_Pair__impl_BoxFine_1_L0.succ {α : Type} (N n : Nat) (v172 : List (Int × Int × Unit)) (v173 : Int) (v174 : Int) (v175 : Int) (k0 : Int → Option α) (k1 : Option α) : slices_IndexFunc_impl_Pair_impl_Pair__impl_BoxFine_1_L0 N (n + 1) v172 v173 v174 v175 k0 k1 = slices_IndexFunc_impl_Pair_impl_Pair__impl_BoxFine_1_L0r N (fun y0 y1 y2 y3 => slices_IndexFunc_impl_Pair_impl_Pair__impl_BoxFine_1_L0 N n y0 y1 y2 y3 k0 k1) k0 k1 v172 v173 v174 v175 := by rw [slices_IndexFunc_impl_Pair_impl_Pair__impl_BoxFine_1_L0.eq]; rfl
/-- slices.IndexFunc[[]loop.example/pinfold/impl.Pair,loop.example/pinfold/impl.Pair] -/
noncomputable def slices_IndexFunc_impl_Pair_impl_Pair__impl_BoxFine_1.b {α : Type} (N : Nat) (a169 : List (Int × Int × Unit)) (a170 : Int) (k0 : Int → Option α) : Option α :=
  let x171 := ((a169.length : Nat) : Int)
  slices_IndexFunc_impl_Pair_impl_Pair__impl_BoxFine_1_L0 N N a169 a170 x171 (0 : Int)
    (fun x192 =>
      k0 x192)
    (
      k0 (-1 : Int))
theorem slices_IndexFunc_impl_Pair_impl_Pair__impl_BoxFine_1.ex : ∃ f : ((α : Type) → Nat → List (Int × Int × Unit) → Int → (Int → Option α) → Option α), f = fun α => @slices_IndexFunc_impl_Pair_impl_Pair__impl_BoxFine_1.b α := ⟨_, rfl⟩
noncomputable def slices_IndexFunc_impl_Pair_impl_Pair__impl_BoxFine_1 {α : Type} : Nat → List (Int × Int × Unit) → Int → (Int → Option α) → Option α := Classical.choose slices_IndexFunc_impl_Pair_impl_Pair__impl_BoxFine_1.ex α
theorem slices_IndexFunc_impl_Pair_impl_Pair__impl_BoxFine_1.eq : @slices_IndexFunc_impl_Pair_impl_Pair__impl_BoxFine_1 = @slices_IndexFunc_impl_Pair_impl_Pair__impl_BoxFine_1.b := funext fun α => congrFun (Classical.choose_spec slices_IndexFunc_impl_Pair_impl_Pair__impl_BoxFine_1.ex) α

/-- slices.ContainsFunc[[]loop.example/pinfold/impl.Pair,loop.example/pinfold/impl.Pair] -/
noncomputable def slices_ContainsFunc_impl_Pair_impl_Pair__impl_BoxFine_1.b {α : Type} (N : Nat) (a167 : List (Int × Int × Unit)) (a168 : Int) (k0 : Bool → Option α) : Option α :=
  slices_IndexFunc_impl_Pair_impl_Pair__impl_BoxFine_1 N a167 a168
    (fun x193 =>
      let x194 := (decide ((0 : Int) ≤ x193))
      k0 x194)
theorem slices_ContainsFunc_impl_Pair_impl_Pair__impl_BoxFine_1.ex : ∃ f : ((α : Type) → Nat → List (Int × Int × Unit) → Int → (Bool → Option α) → Option α), f = fun α => @slices_ContainsFunc_impl_Pair_impl_Pair__impl_BoxFine_1.b α := ⟨_, rfl⟩
noncomputable def slices_ContainsFunc_impl_Pair_impl_Pair__impl_BoxFine_1 {α : Type} : Nat → List (Int × Int × Unit) → Int → (Bool → Option α) → Option α := Classical.choose slices_ContainsFunc_impl_Pair_impl_Pair__impl_BoxFine_1.ex α
theorem slices_ContainsFunc_impl_Pair_impl_Pair__impl_BoxFine_1.eq : @slices_ContainsFunc_impl_Pair_impl_Pair__impl_BoxFine_1 = @slices_ContainsFunc_impl_Pair_impl_Pair__impl_BoxFine_1.b := funext fun α => congrFun (Classical.choose_spec slices_ContainsFunc_impl_Pair_impl_Pair__impl_BoxFine_1.ex) α

/-- loop.example/pinfold/impl.BoxFine -/
noncomputable def impl_BoxFine.b {α : Type} (N : Nat) (a107 : Int) (a108 : (List (Int × Int × Unit)) × Unit) (a109 : Int) (k0 : Bool → Option α) : Option α :=
  let x110 := (minI (1000000 : Int) a109)
  let x111 := (maxI (1 : Int) x110)
  let x112 := (IntKind.i64.wrap (x111 + (1 : Int)))
  let x113 := IntKind.u64.wrap x112
  impl_BoxOk N a107 a108
    (fun x166 =>
      bif x166 then
        slices_ContainsFunc_impl_Pair_impl_Pair__impl_BoxFine_1 N a108.1 x113
          (fun x195 =>
            let x196 := !x195
            k0 x196)
      else
        k0 false)
theorem impl_BoxFine.ex : ∃ f : ((α : Type) → Nat → Int → ((List (Int × Int × Unit)) × Unit) → Int → (Bool → Option α) → Option α), f = fun α => @impl_BoxFine.b α := ⟨_, rfl⟩
noncomputable def impl_BoxFine {α : Type} : Nat → Int → ((List (Int × Int × Unit)) × Unit) → Int → (Bool → Option α) → Option α := Classical.choose impl_BoxFine.ex α
theorem impl_BoxFine.eq : @impl_BoxFine = @impl_BoxFine.b := funext fun α => congrFun (Classical.choose_spec impl_BoxFine.ex) α

/-- loop.example/pinfold/laws.eqPair -/
noncomputable def laws_eqPair.b {α : Type} (N : Nat) (a214 : Int × Int × Unit) (a215 : Int × Int × Unit) (k0 : Bool → Option α) : Option α :=
  let x216 := !(decide (a214.1 = a215.1))
  bif x216 then
    k0 false
  else
    let x217 := !(decide (a214.2.1 = a215.2.1))
    bif x217 then
      k0 false
    else
      k0 true
theorem laws_eqPair.ex : ∃ f : ((α : Type) → Nat → (Int × Int × Unit) → (Int × Int × Unit) → (Bool → Option α) → Option α), f = fun α => @laws_eqPair.b α := ⟨_, rfl⟩
noncomputable def laws_eqPair {α : Type} : Nat → (Int × Int × Unit) → (Int × Int × Unit) → (Bool → Option α) → Option α := Classical.choose laws_eqPair.ex α
theorem laws_eqPair.eq : @laws_eqPair = @laws_eqPair.b := funext fun α => congrFun (Classical.choose_spec laws_eqPair.ex) α

noncomputable def laws_eqPairS_L0r {α : Type} (N : Nat) (next : List (Int × Int × Unit) → List (Int × Int × Unit) → Int → Option α) (k0 : Bool → Option α) (k1 : Option α) (v207 : List (Int × Int × Unit)) (v208 : List (Int × Int × Unit)) (v209 : Int) : Option α :=
  let x210 := ((v207.length : Nat) : Int)
  let x211 := decide (v209 < x210)
  bif x211 then
    bif (decide (v209 < (0 : Int))) then
      none
    else
      match v207[v209.toNat]? with
      | some x212 =>
        bif (decide (v209 < (0 : Int))) then
          none
        else
          match v208[v209.toNat]? with
          | some x213 =>
            laws_eqPair N x212 x213
              (fun x218 =>
                let x219 := !x218
                bif x219 then
                  k0 false
                else
                  let x220 := (IntKind.i64.wrap (v209 + (1 : Int)))
                  next v207 v208 x220)
          | none => none
      | none => none
  else
    k1
noncomputable def laws_eqPairS_L0.b {α : Type} (N n : Nat) (v207 : List (Int × Int × Unit)) (v208 : List (Int × Int × Unit)) (v209 : Int) (k0 : Bool → Option α) (k1 : Option α) : Option α :=
  Nat.rec (motive := fun _ => List (Int × Int × Unit) → List (Int × Int × Unit) → Int → Option α) (fun _ _ _ => none) (fun _ next => laws_eqPairS_L0r N next k0 k1) n v207 v208 v209
theorem laws_eqPairS_L0.ex : ∃ f : ((α : Type) → Nat → Nat → List (Int × Int × Unit) → List (Int × Int × Unit) → Int → (Bool → Option α) → (Option α) → Option α), f = fun α => @laws_eqPairS_L0.b α := ⟨_, rfl⟩
noncomputable def laws_eqPairS_L0 {α : Type} : Nat → Nat → List (Int × Int × Unit) → List (Int × Int × Unit) → Int → (Bool → Option α) → (Option α) → Option α := Classical.choose laws_eqPairS_L0.ex α
theorem laws_eqPairS_L0.eq : @laws_eqPairS_L0 = @laws_eqPairS_L0.b := funext fun α => congrFun (Classical.choose_spec laws_eqPairS_L0.ex) α
theorem laws_eqPairS_L0.zero {α : Type} (N : Nat) (v207 : List (Int × Int × Unit)) (v208 : List (Int × Int × Unit)) (v209 : Int) (k0 : Bool → Option α) (k1 : Option α) : laws_eqPairS_L0 N 0 v207 v208 v209 k0 k1 = none := by rw [laws_eqPairS_L0.eq]; rfl
theorem laws_eqPairS_L0.succ {α : Type} (N n : Nat) (v207 : List (Int × Int × Unit)) (v208 : List (Int × Int × Unit)) (v209 : Int) (k0 : Bool → Option α) (k1 : Option α) : laws_eqPairS_L0 N (n + 1) v207 v208 v209 k0 k1 = laws_eqPairS_L0r N (fun y0 y1 y2 => laws_eqPairS_L0 N n y0 y1 y2 k0 k1) k0 k1 v207 v208 v209 := by rw [laws_eqPairS_L0.eq]; rfl
/-- loop.example/pinfold/laws.eqPairS -/
noncomputable def laws_eqPairS.b {α : Type} (N : Nat) (a202 : List (Int × Int × Unit)) (a203 : List (Int × Int × Unit)) (k0 : Bool → Option α) : Option α :=
  let x204 := ((a202.length : Nat) : Int)
  let x205 := ((a203.length : Nat) : Int)
  let x206 := !(decide (x204 = x205))
  bif x206 then
    k0 false
  else
    laws_eqPairS_L0 N N a202 a203 (0 : Int)
      (fun x221 =>
        k0 x221)
      (
        k0 true)
theorem laws_eqPairS.ex : ∃ f : ((α : Type) → Nat → List (Int × Int × Unit) → List (Int × Int × Unit) → (Bool → Option α) → Option α), f = fun α => @laws_eqPairS.b α := ⟨_, rfl⟩
noncomputable def laws_eqPairS {α : Type} : Nat → List (Int × Int × Unit) → List (Int × Int × Unit) → (Bool → Option α) → Option α := Classical.choose laws_eqPairS.ex α
theorem laws_eqPairS.eq : @laws_eqPairS = @laws_eqPairS.b := funext fun α => congrFun (Classical.choose_spec laws_eqPairS.ex) α

/-- loop.example/pinfold/laws.eqBox -/
noncomputable def laws_eqBox.b {α : Type} (N : Nat) (a200 : (List (Int × Int × Unit)) × Unit) (a201 : (List (Int × Int × Unit)) × Unit) (k0 : Bool → Option α) : Option α :=
  laws_eqPairS N a200.1 a201.1
    (fun x222 =>
      let x223 := !x222
      bif x223 then
        k0 false
      else
        k0 true)
theorem laws_eqBox.ex : ∃ f : ((α : Type) → Nat → ((List (Int × Int × Unit)) × Unit) → ((List (Int × Int × Unit)) × Unit) → (Bool → Option α) → Option α), f = fun α => @laws_eqBox.b α := ⟨_, rfl⟩
noncomputable def laws_eqBox {α : Type} : Nat → ((List (Int × Int × Unit)) × Unit) → ((List (Int × Int × Unit)) × Unit) → (Bool → Option α) → Option α := Classical.choose laws_eqBox.ex α
theorem laws_eqBox.eq : @laws_eqBox = @laws_eqBox.b := funext fun α => congrFun (Classical.choose_spec laws_eqBox.ex) α

/-- loop.example/pinfold/laws.FnExactBoxFine -/
noncomputable def laws_FnExactBoxFine.b {α : Type} (N : Nat) (a1 : Int) (a2 : (List (Int × Int × Unit)) × Unit) (a3 : Int) (k0 : Bool → Option α) : Option α :=
  laws_szBox N a2 (1048576 : Int)
    (fun x13 =>
      let x14 := (decide (x13 < (0 : Int)))
      bif x14 then
        k0 true
      else
        laws_toBox N a2
          (fun x32 =>
            spec_BoxFine N a1 (x32, ()) a3
              (fun x105 =>
                laws_toBox N a2
                  (fun x106 =>
                    impl_BoxFine N a1 (x106, ()) a3
                      (fun x197 =>
                        let x198 := !(x197 == x105)
                        bif x198 then
                          k0 false
                        else
                          laws_toBox N a2
                            (fun x199 =>
                              laws_eqBox N (x106, ()) (x199, ())
                                (fun x224 =>
                                  let x225 := !x224
                                  bif x225 then
                                    k0 false
                                  else
                                    k0 true)))))))
theorem laws_FnExactBoxFine.ex : ∃ f : ((α : Type) → Nat → Int → ((List (Int × Int × Unit)) × Unit) → Int → (Bool → Option α) → Option α), f = fun α => @laws_FnExactBoxFine.b α := ⟨_, rfl⟩
noncomputable def laws_FnExactBoxFine {α : Type} : Nat → Int → ((List (Int × Int × Unit)) × Unit) → Int → (Bool → Option α) → Option α := Classical.choose laws_FnExactBoxFine.ex α
theorem laws_FnExactBoxFine.eq : @laws_FnExactBoxFine = @laws_FnExactBoxFine.b := funext fun α => congrFun (Classical.choose_spec laws_FnExactBoxFine.ex) α

end
end Go.Proofs.YtaelbfbplamahaaAm
