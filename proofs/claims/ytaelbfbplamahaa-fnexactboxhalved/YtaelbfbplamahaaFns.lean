/-
  The functions that the program computes, as the abstract machine tells them. Printed by amp.py.
-/
import Derived.Test.YtaelbfbplamahaaAmb
namespace Go.Proofs.YtaelbfbplamahaaAm
open Go
noncomputable section
set_option linter.unusedVariables false
set_option linter.unusedSimpArgs false

/-- loop.example/pinfold/laws.szPairS -/
noncomputable def laws_szPairS.b {α : Type} (N : Nat) (a6 : List (Int × Int × Unit)) (a7 : Int) (k0 : Int → Option α) : Option α :=
  let x8 := ((a6.length : Nat) : Int)
  let x9 := IntKind.i64.wrap (a7 - x8)
  let x10 := (decide (x9 < (0 : Int)))
  bif x10 then
    k0 (-1 : Int)
  else
    k0 x9
theorem laws_szPairS.ex : ∃ f : ((α : Type) → Nat → List (Int × Int × Unit) → Int → (Int → Option α) → Option α), f = fun α => @laws_szPairS.b α := ⟨_, rfl⟩
noncomputable def laws_szPairS {α : Type} : Nat → List (Int × Int × Unit) → Int → (Int → Option α) → Option α := Classical.choose laws_szPairS.ex α
theorem laws_szPairS.eq : @laws_szPairS = @laws_szPairS.b := funext fun α => congrFun (Classical.choose_spec laws_szPairS.ex) α

/-- loop.example/pinfold/laws.szBox -/
noncomputable def laws_szBox.b {α : Type} (N : Nat) (a4 : (List (Int × Int × Unit)) × Unit) (a5 : Int) (k0 : Int → Option α) : Option α :=
  laws_szPairS N a4.1 a5
    (fun x11 =>
      let x12 := (decide (x11 < (0 : Int)))
      bif x12 then
        k0 (-1 : Int)
      else
        k0 x11)
theorem laws_szBox.ex : ∃ f : ((α : Type) → Nat → ((List (Int × Int × Unit)) × Unit) → Int → (Int → Option α) → Option α), f = fun α => @laws_szBox.b α := ⟨_, rfl⟩
noncomputable def laws_szBox {α : Type} : Nat → ((List (Int × Int × Unit)) × Unit) → Int → (Int → Option α) → Option α := Classical.choose laws_szBox.ex α
theorem laws_szBox.eq : @laws_szBox = @laws_szBox.b := funext fun α => congrFun (Classical.choose_spec laws_szBox.ex) α

/-- loop.example/pinfold/laws.toPair -/
noncomputable def laws_toPair.b {α : Type} (N : Nat) (a27 : Int × Int × Unit) (k0 : (Int × Int × Unit) → Option α) : Option α :=
  k0 (a27.1, (a27.2.1, ()))
theorem laws_toPair.ex : ∃ f : ((α : Type) → Nat → (Int × Int × Unit) → ((Int × Int × Unit) → Option α) → Option α), f = fun α => @laws_toPair.b α := ⟨_, rfl⟩
noncomputable def laws_toPair {α : Type} : Nat → (Int × Int × Unit) → ((Int × Int × Unit) → Option α) → Option α := Classical.choose laws_toPair.ex α
theorem laws_toPair.eq : @laws_toPair = @laws_toPair.b := funext fun α => congrFun (Classical.choose_spec laws_toPair.ex) α

noncomputable def laws_toPairS_L0r {α : Type} (N : Nat) (next : List (Int × Int × Unit) → Int → List (Int × Int × Unit) → Option α) (k0 : List (Int × Int × Unit) → Option α) (v21 : List (Int × Int × Unit)) (v22 : Int) (v23 : List (Int × Int × Unit)) : Option α :=
  let x24 := ((v21.length : Nat) : Int)
  let x25 := decide (v22 < x24)
  bif x25 then
    bif (decide (v22 < (0 : Int))) then
      none
    else
      match v21[v22.toNat]? with
      | some x26 =>
        laws_toPair N x26
          (fun x28 =>
            bif (decide (v22 < (0 : Int))) then
              none
            else
              bif decide (v22.toNat < v23.length) then
                match v23[v22.toNat]? with
                | some x29 =>
                  let x30 := v23.set v22.toNat x28
                  let x31 := (IntKind.i64.wrap (v22 + (1 : Int)))
                  next v21 x31 x30
                | none => none
              else
                none)
      | none => none
  else
    k0 v23
noncomputable def laws_toPairS_L0.b {α : Type} (N n : Nat) (v21 : List (Int × Int × Unit)) (v22 : Int) (v23 : List (Int × Int × Unit)) (k0 : List (Int × Int × Unit) → Option α) : Option α :=
  Nat.rec (motive := fun _ => List (Int × Int × Unit) → Int → List (Int × Int × Unit) → Option α) (fun _ _ _ => none) (fun _ next => laws_toPairS_L0r N next k0) n v21 v22 v23
theorem laws_toPairS_L0.ex : ∃ f : ((α : Type) → Nat → Nat → List (Int × Int × Unit) → Int → List (Int × Int × Unit) → (List (Int × Int × Unit) → Option α) → Option α), f = fun α => @laws_toPairS_L0.b α := ⟨_, rfl⟩
noncomputable def laws_toPairS_L0 {α : Type} : Nat → Nat → List (Int × Int × Unit) → Int → List (Int × Int × Unit) → (List (Int × Int × Unit) → Option α) → Option α := Classical.choose laws_toPairS_L0.ex α
theorem laws_toPairS_L0.eq : @laws_toPairS_L0 = @laws_toPairS_L0.b := funext fun α => congrFun (Classical.choose_spec laws_toPairS_L0.ex) α
theorem laws_toPairS_L0.zero {α : Type} (N : Nat) (v21 : List (Int × Int × Unit)) (v22 : Int) (v23 : List (Int × Int × Unit)) (k0 : List (Int × Int × Unit) → Option α) : laws_toPairS_L0 N 0 v21 v22 v23 k0 = none := by rw [laws_toPairS_L0.eq]; rfl
theorem laws_toPairS_L0.succ {α : Type} (N n : Nat) (v21 : List (Int × Int × Unit)) (v22 : Int) (v23 : List (Int × Int × Unit)) (k0 : List (Int × Int × Unit) → Option α) : laws_toPairS_L0 N (n + 1) v21 v22 v23 k0 = laws_toPairS_L0r N (fun y0 y1 y2 => laws_toPairS_L0 N n y0 y1 y2 k0) k0 v21 v22 v23 := by rw [laws_toPairS_L0.eq]; rfl
/-- loop.example/pinfold/laws.toPairS -/
noncomputable def laws_toPairS.b {α : Type} (N : Nat) (a18 : List (Int × Int × Unit)) (k0 : List (Int × Int × Unit) → Option α) : Option α :=
  let x19 := ((a18.length : Nat) : Int)
  bif (decide ((0 : Int) ≤ x19)) then
    bif decide (x19 ≤ x19) then
      bif (decide (x19 ≤ ((8796093022208 : Nat) : Int))) then
        let x20 := (List.replicate x19.toNat ((0 : Int), ((0 : Int), ())))
        laws_toPairS_L0 N N a18 (0 : Int) x20
          (fun x32 =>
            k0 x32)
      else
        none
    else
      none
  else
    none
theorem laws_toPairS.ex : ∃ f : ((α : Type) → Nat → List (Int × Int × Unit) → (List (Int × Int × Unit) → Option α) → Option α), f = fun α => @laws_toPairS.b α := ⟨_, rfl⟩
noncomputable def laws_toPairS {α : Type} : Nat → List (Int × Int × Unit) → (List (Int × Int × Unit) → Option α) → Option α := Classical.choose laws_toPairS.ex α
theorem laws_toPairS.eq : @laws_toPairS = @laws_toPairS.b := funext fun α => congrFun (Classical.choose_spec laws_toPairS.ex) α

/-- loop.example/pinfold/laws.toBox -/
noncomputable def laws_toBox.b {α : Type} (N : Nat) (a17 : (List (Int × Int × Unit)) × Unit) (k0 : List (Int × Int × Unit) → Option α) : Option α :=
  laws_toPairS N a17.1
    (fun x33 =>
      k0 x33)
theorem laws_toBox.ex : ∃ f : ((α : Type) → Nat → ((List (Int × Int × Unit)) × Unit) → (List (Int × Int × Unit) → Option α) → Option α), f = fun α => @laws_toBox.b α := ⟨_, rfl⟩
noncomputable def laws_toBox {α : Type} : Nat → ((List (Int × Int × Unit)) × Unit) → (List (Int × Int × Unit) → Option α) → Option α := Classical.choose laws_toBox.ex α
theorem laws_toBox.eq : @laws_toBox = @laws_toBox.b := funext fun α => congrFun (Classical.choose_spec laws_toBox.ex) α

/-- loop.example/pinfold/spec.BitTop -/
noncomputable def spec_BitTop.b {α : Type} (N : Nat) (a53 : Int) (k0 : Int → Option α) : Option α :=
  let x54 := (decide (a53 = (32 : Int)))
  bif x54 then
    k0 (2139095040 : Int)
  else
    let x55 := (decide (a53 = (64 : Int)))
    bif x55 then
      k0 (9218868437227405312 : Int)
    else
      k0 (0 : Int)
theorem spec_BitTop.ex : ∃ f : ((α : Type) → Nat → Int → (Int → Option α) → Option α), f = fun α => @spec_BitTop.b α := ⟨_, rfl⟩
noncomputable def spec_BitTop {α : Type} : Nat → Int → (Int → Option α) → Option α := Classical.choose spec_BitTop.ex α
theorem spec_BitTop.eq : @spec_BitTop = @spec_BitTop.b := funext fun α => congrFun (Classical.choose_spec spec_BitTop.ex) α

/-- loop.example/pinfold/spec.l1Width -/
noncomputable def spec_l1Width.b {α : Type} (N : Nat) (a59 : Int) (k0 : Bool → Option α) : Option α :=
  let x60 := (decide (a59 = (32 : Int)))
  bif x60 then
    k0 true
  else
    let x61 := (decide (a59 = (64 : Int)))
    k0 x61
theorem spec_l1Width.ex : ∃ f : ((α : Type) → Nat → Int → (Bool → Option α) → Option α), f = fun α => @spec_l1Width.b α := ⟨_, rfl⟩
noncomputable def spec_l1Width {α : Type} : Nat → Int → (Bool → Option α) → Option α := Classical.choose spec_l1Width.ex α
theorem spec_l1Width.eq : @spec_l1Width = @spec_l1Width.b := funext fun α => congrFun (Classical.choose_spec spec_l1Width.ex) α

/-- loop.example/pinfold/spec.BitOk -/
noncomputable def spec_BitOk.b {α : Type} (N : Nat) (a57 : Int) (a58 : Int) (k0 : Bool → Option α) : Option α :=
  spec_l1Width N a57
    (fun x62 =>
      bif x62 then
        spec_BitTop N a57
          (fun x63 =>
            let x64 := IntKind.i64.wrap (0 - x63)
            let x65 := decide (x64 ≤ a58)
            bif x65 then
              spec_BitTop N a57
                (fun x66 =>
                  let x67 := decide (a58 ≤ x66)
                  k0 x67)
            else
              k0 false)
      else
        k0 false)
theorem spec_BitOk.ex : ∃ f : ((α : Type) → Nat → Int → Int → (Bool → Option α) → Option α), f = fun α => @spec_BitOk.b α := ⟨_, rfl⟩
noncomputable def spec_BitOk {α : Type} : Nat → Int → Int → (Bool → Option α) → Option α := Classical.choose spec_BitOk.ex α
theorem spec_BitOk.eq : @spec_BitOk = @spec_BitOk.b := funext fun α => congrFun (Classical.choose_spec spec_BitOk.ex) α

/-- loop.example/pinfold/spec.PairOk -/
noncomputable def spec_PairOk.b {α : Type} (N : Nat) (a51 : Int) (a52 : Int × Int × Unit) (k0 : Bool → Option α) : Option α :=
  spec_BitTop N a51
    (fun x56 =>
      spec_BitOk N a51 a52.1
        (fun x68 =>
          bif x68 then
            spec_BitOk N a51 a52.2.1
              (fun x69 =>
                bif x69 then
                  let x70 := decide (a52.1 ≤ a52.2.1)
                  bif x70 then
                    let x71 := decide (a52.1 < x56)
                    bif x71 then
                      let x72 := IntKind.i64.wrap (0 - x56)
                      let x73 := decide (x72 < a52.2.1)
                      k0 x73
                    else
                      k0 false
                  else
                    k0 false
                else
                  k0 false)
          else
            k0 false))
theorem spec_PairOk.ex : ∃ f : ((α : Type) → Nat → Int → (Int × Int × Unit) → (Bool → Option α) → Option α), f = fun α => @spec_PairOk.b α := ⟨_, rfl⟩
noncomputable def spec_PairOk {α : Type} : Nat → Int → (Int × Int × Unit) → (Bool → Option α) → Option α := Classical.choose spec_PairOk.ex α
theorem spec_PairOk.eq : @spec_PairOk = @spec_PairOk.b := funext fun α => congrFun (Classical.choose_spec spec_PairOk.ex) α

noncomputable def spec_BoxOk_L0r {α : Type} (N : Nat) (next : Int → Int → ((List (Int × Int × Unit)) × Unit) → Option α) (k0 : Bool → Option α) (k1 : Option α) (v45 : Int) (v46 : Int) (v47 : (List (Int × Int × Unit)) × Unit) : Option α :=
  let x48 := ((v47.1.length : Nat) : Int)
  let x49 := decide (v46 < x48)
  bif x49 then
    bif (decide (v46 < (0 : Int))) then
      none
    else
      match v47.1[v46.toNat]? with
      | some x50 =>
        spec_PairOk N v45 x50
          (fun x74 =>
            let x75 := !x74
            bif x75 then
              k0 false
            else
              let x76 := (IntKind.i64.wrap (v46 + (1 : Int)))
              next v45 x76 v47)
      | none => none
  else
    k1
noncomputable def spec_BoxOk_L0.b {α : Type} (N n : Nat) (v45 : Int) (v46 : Int) (v47 : (List (Int × Int × Unit)) × Unit) (k0 : Bool → Option α) (k1 : Option α) : Option α :=
  Nat.rec (motive := fun _ => Int → Int → ((List (Int × Int × Unit)) × Unit) → Option α) (fun _ _ _ => none) (fun _ next => spec_BoxOk_L0r N next k0 k1) n v45 v46 v47
theorem spec_BoxOk_L0.ex : ∃ f : ((α : Type) → Nat → Nat → Int → Int → ((List (Int × Int × Unit)) × Unit) → (Bool → Option α) → (Option α) → Option α), f = fun α => @spec_BoxOk_L0.b α := ⟨_, rfl⟩
noncomputable def spec_BoxOk_L0 {α : Type} : Nat → Nat → Int → Int → ((List (Int × Int × Unit)) × Unit) → (Bool → Option α) → (Option α) → Option α := Classical.choose spec_BoxOk_L0.ex α
theorem spec_BoxOk_L0.eq : @spec_BoxOk_L0 = @spec_BoxOk_L0.b := funext fun α => congrFun (Classical.choose_spec spec_BoxOk_L0.ex) α
theorem spec_BoxOk_L0.zero {α : Type} (N : Nat) (v45 : Int) (v46 : Int) (v47 : (List (Int × Int × Unit)) × Unit) (k0 : Bool → Option α) (k1 : Option α) : spec_BoxOk_L0 N 0 v45 v46 v47 k0 k1 = none := by rw [spec_BoxOk_L0.eq]; rfl
theorem spec_BoxOk_L0.succ {α : Type} (N n : Nat) (v45 : Int) (v46 : Int) (v47 : (List (Int × Int × Unit)) × Unit) (k0 : Bool → Option α) (k1 : Option α) : spec_BoxOk_L0 N (n + 1) v45 v46 v47 k0 k1 = spec_BoxOk_L0r N (fun y0 y1 y2 => spec_BoxOk_L0 N n y0 y1 y2 k0 k1) k0 k1 v45 v46 v47 := by rw [spec_BoxOk_L0.eq]; rfl
/-- loop.example/pinfold/spec.BoxOk -/
noncomputable def spec_BoxOk.b {α : Type} (N : Nat) (a39 : Int) (a40 : (List (Int × Int × Unit)) × Unit) (k0 : Bool → Option α) : Option α :=
  let x41 := ((a40.1.length : Nat) : Int)
  let x42 := (decide (x41 < (1 : Int)))
  bif x42 then
    k0 false
  else
    let x43 := ((a40.1.length : Nat) : Int)
    let x44 := (decide ((6 : Int) < x43))
    bif x44 then
      k0 false
    else
      spec_BoxOk_L0 N N a39 (0 : Int) a40
        (fun x77 =>
          k0 x77)
        (
          k0 true)
theorem spec_BoxOk.ex : ∃ f : ((α : Type) → Nat → Int → ((List (Int × Int × Unit)) × Unit) → (Bool → Option α) → Option α), f = fun α => @spec_BoxOk.b α := ⟨_, rfl⟩
noncomputable def spec_BoxOk {α : Type} : Nat → Int → ((List (Int × Int × Unit)) × Unit) → (Bool → Option α) → Option α := Classical.choose spec_BoxOk.ex α
theorem spec_BoxOk.eq : @spec_BoxOk = @spec_BoxOk.b := funext fun α => congrFun (Classical.choose_spec spec_BoxOk.ex) α

/-- loop.example/pinfold/spec.PairIs -/
noncomputable def spec_PairIs.b {α : Type} (N : Nat) (a94 : Int × Int × Unit) (a95 : Int × Int × Unit) (k0 : Bool → Option α) : Option α :=
  let x96 := decide (a95.1 ≤ a94.1)
  bif x96 then
    let x97 := decide (a94.2.1 ≤ a95.2.1)
    k0 x97
  else
    k0 false
theorem spec_PairIs.ex : ∃ f : ((α : Type) → Nat → (Int × Int × Unit) → (Int × Int × Unit) → (Bool → Option α) → Option α), f = fun α => @spec_PairIs.b α := ⟨_, rfl⟩
noncomputable def spec_PairIs {α : Type} : Nat → (Int × Int × Unit) → (Int × Int × Unit) → (Bool → Option α) → Option α := Classical.choose spec_PairIs.ex α
theorem spec_PairIs.eq : @spec_PairIs = @spec_PairIs.b := funext fun α => congrFun (Classical.choose_spec spec_PairIs.ex) α

noncomputable def spec_BoxIs_L0r {α : Type} (N : Nat) (next : Int → ((List (Int × Int × Unit)) × Unit) → ((List (Int × Int × Unit)) × Unit) → Option α) (k0 : Bool → Option α) (k1 : Option α) (v87 : Int) (v88 : (List (Int × Int × Unit)) × Unit) (v89 : (List (Int × Int × Unit)) × Unit) : Option α :=
  let x90 := ((v88.1.length : Nat) : Int)
  let x91 := decide (v87 < x90)
  bif x91 then
    bif (decide (v87 < (0 : Int))) then
      none
    else
      match v88.1[v87.toNat]? with
      | some x92 =>
        bif (decide (v87 < (0 : Int))) then
          none
        else
          match v89.1[v87.toNat]? with
          | some x93 =>
            spec_PairIs N x92 x93
              (fun x98 =>
                let x99 := !x98
                bif x99 then
                  k0 false
                else
                  let x100 := (IntKind.i64.wrap (v87 + (1 : Int)))
                  next x100 v88 v89)
          | none => none
      | none => none
  else
    k1
noncomputable def spec_BoxIs_L0.b {α : Type} (N n : Nat) (v87 : Int) (v88 : (List (Int × Int × Unit)) × Unit) (v89 : (List (Int × Int × Unit)) × Unit) (k0 : Bool → Option α) (k1 : Option α) : Option α :=
  Nat.rec (motive := fun _ => Int → ((List (Int × Int × Unit)) × Unit) → ((List (Int × Int × Unit)) × Unit) → Option α) (fun _ _ _ => none) (fun _ next => spec_BoxIs_L0r N next k0 k1) n v87 v88 v89
theorem spec_BoxIs_L0.ex : ∃ f : ((α : Type) → Nat → Nat → Int → ((List (Int × Int × Unit)) × Unit) → ((List (Int × Int × Unit)) × Unit) → (Bool → Option α) → (Option α) → Option α), f = fun α => @spec_BoxIs_L0.b α := ⟨_, rfl⟩
noncomputable def spec_BoxIs_L0 {α : Type} : Nat → Nat → Int → ((List (Int × Int × Unit)) × Unit) → ((List (Int × Int × Unit)) × Unit) → (Bool → Option α) → (Option α) → Option α := Classical.choose spec_BoxIs_L0.ex α
theorem spec_BoxIs_L0.eq : @spec_BoxIs_L0 = @spec_BoxIs_L0.b := funext fun α => congrFun (Classical.choose_spec spec_BoxIs_L0.ex) α
theorem spec_BoxIs_L0.zero {α : Type} (N : Nat) (v87 : Int) (v88 : (List (Int × Int × Unit)) × Unit) (v89 : (List (Int × Int × Unit)) × Unit) (k0 : Bool → Option α) (k1 : Option α) : spec_BoxIs_L0 N 0 v87 v88 v89 k0 k1 = none := by rw [spec_BoxIs_L0.eq]; rfl
theorem spec_BoxIs_L0.succ {α : Type} (N n : Nat) (v87 : Int) (v88 : (List (Int × Int × Unit)) × Unit) (v89 : (List (Int × Int × Unit)) × Unit) (k0 : Bool → Option α) (k1 : Option α) : spec_BoxIs_L0 N (n + 1) v87 v88 v89 k0 k1 = spec_BoxIs_L0r N (fun y0 y1 y2 => spec_BoxIs_L0 N n y0 y1 y2 k0 k1) k0 k1 v87 v88 v89 := by rw [spec_BoxIs_L0.eq]; rfl
/-- loop.example/pinfold/spec.BoxIs -/
noncomputable def spec_BoxIs.b {α : Type} (N : Nat) (a82 : (List (Int × Int × Unit)) × Unit) (a83 : (List (Int × Int × Unit)) × Unit) (k0 : Bool → Option α) : Option α :=
  let x84 := ((a82.1.length : Nat) : Int)
  let x85 := ((a83.1.length : Nat) : Int)
  let x86 := !(decide (x84 = x85))
  bif x86 then
    k0 false
  else
    spec_BoxIs_L0 N N (0 : Int) a82 a83
      (fun x101 =>
        k0 x101)
      (
        k0 true)
theorem spec_BoxIs.ex : ∃ f : ((α : Type) → Nat → ((List (Int × Int × Unit)) × Unit) → ((List (Int × Int × Unit)) × Unit) → (Bool → Option α) → Option α), f = fun α => @spec_BoxIs.b α := ⟨_, rfl⟩
noncomputable def spec_BoxIs {α : Type} : Nat → ((List (Int × Int × Unit)) × Unit) → ((List (Int × Int × Unit)) × Unit) → (Bool → Option α) → Option α := Classical.choose spec_BoxIs.ex α
theorem spec_BoxIs.eq : @spec_BoxIs = @spec_BoxIs.b := funext fun α => congrFun (Classical.choose_spec spec_BoxIs.ex) α

/-- loop.example/pinfold/spec.BitGap -/
noncomputable def spec_BitGap.b {α : Type} (N : Nat) (a111 : Int) (a112 : Int) (k0 : Int → Option α) : Option α :=
  let x113 := decide (a112 < a111)
  bif x113 then
    k0 (0 : Int)
  else
    let x114 := IntKind.u64.wrap a112
    let x115 := IntKind.u64.wrap a111
    let x116 := IntKind.u64.wrap (x114 - x115)
    k0 x116
theorem spec_BitGap.ex : ∃ f : ((α : Type) → Nat → Int → Int → (Int → Option α) → Option α), f = fun α => @spec_BitGap.b α := ⟨_, rfl⟩
noncomputable def spec_BitGap {α : Type} : Nat → Int → Int → (Int → Option α) → Option α := Classical.choose spec_BitGap.ex α
theorem spec_BitGap.eq : @spec_BitGap = @spec_BitGap.b := funext fun α => congrFun (Classical.choose_spec spec_BitGap.ex) α

/-- loop.example/pinfold/spec.l3Gap -/
noncomputable def spec_l3Gap.b {α : Type} (N : Nat) (a110 : Int × Int × Unit) (k0 : Int → Option α) : Option α :=
  spec_BitGap N a110.1 a110.2.1
    (fun x117 =>
      k0 x117)
theorem spec_l3Gap.ex : ∃ f : ((α : Type) → Nat → (Int × Int × Unit) → (Int → Option α) → Option α), f = fun α => @spec_l3Gap.b α := ⟨_, rfl⟩
noncomputable def spec_l3Gap {α : Type} : Nat → (Int × Int × Unit) → (Int → Option α) → Option α := Classical.choose spec_l3Gap.ex α
theorem spec_l3Gap.eq : @spec_l3Gap = @spec_l3Gap.b := funext fun α => congrFun (Classical.choose_spec spec_l3Gap.ex) α

noncomputable def spec_BoxHalved_L0r {α : Type} (N : Nat) (next : Int → ((List (Int × Int × Unit)) × Unit) → ((List (Int × Int × Unit)) × Unit) → Option α) (k0 : Bool → Option α) (k1 : Option α) (v104 : Int) (v105 : (List (Int × Int × Unit)) × Unit) (v106 : (List (Int × Int × Unit)) × Unit) : Option α :=
  let x107 := ((v105.1.length : Nat) : Int)
  let x108 := decide (v104 < x107)
  bif x108 then
    bif (decide (v104 < (0 : Int))) then
      none
    else
      match v105.1[v104.toNat]? with
      | some x109 =>
        spec_l3Gap N x109
          (fun x118 =>
            let x119 := (decide ((0 : Int) < x118))
            bif x119 then
              bif (decide (v104 < (0 : Int))) then
                none
              else
                match v106.1[v104.toNat]? with
                | some x120 =>
                  spec_l3Gap N x120
                    (fun x121 =>
                      let x122 := (IntKind.u64.wrap (Int.tdiv x118 (2 : Int)))
                      let x123 := decide (x121 ≤ x122)
                      bif x123 then
                        k0 true
                      else
                        let x124 := (IntKind.i64.wrap (v104 + (1 : Int)))
                        next x124 v105 v106)
                | none => none
            else
              let x125 := (IntKind.i64.wrap (v104 + (1 : Int)))
              next x125 v105 v106)
      | none => none
  else
    k1
noncomputable def spec_BoxHalved_L0.b {α : Type} (N n : Nat) (v104 : Int) (v105 : (List (Int × Int × Unit)) × Unit) (v106 : (List (Int × Int × Unit)) × Unit) (k0 : Bool → Option α) (k1 : Option α) : Option α :=
  Nat.rec (motive := fun _ => Int → ((List (Int × Int × Unit)) × Unit) → ((List (Int × Int × Unit)) × Unit) → Option α) (fun _ _ _ => none) (fun _ next => spec_BoxHalved_L0r N next k0 k1) n v104 v105 v106
theorem spec_BoxHalved_L0.ex : ∃ f : ((α : Type) → Nat → Nat → Int → ((List (Int × Int × Unit)) × Unit) → ((List (Int × Int × Unit)) × Unit) → (Bool → Option α) → (Option α) → Option α), f = fun α => @spec_BoxHalved_L0.b α := ⟨_, rfl⟩
noncomputable def spec_BoxHalved_L0 {α : Type} : Nat → Nat → Int → ((List (Int × Int × Unit)) × Unit) → ((List (Int × Int × Unit)) × Unit) → (Bool → Option α) → (Option α) → Option α := Classical.choose spec_BoxHalved_L0.ex α
theorem spec_BoxHalved_L0.eq : @spec_BoxHalved_L0 = @spec_BoxHalved_L0.b := funext fun α => congrFun (Classical.choose_spec spec_BoxHalved_L0.ex) α
theorem spec_BoxHalved_L0.zero {α : Type} (N : Nat) (v104 : Int) (v105 : (List (Int × Int × Unit)) × Unit) (v106 : (List (Int × Int × Unit)) × Unit) (k0 : Bool → Option α) (k1 : Option α) : spec_BoxHalved_L0 N 0 v104 v105 v106 k0 k1 = none := by rw [spec_BoxHalved_L0.eq]; rfl
theorem spec_BoxHalved_L0.succ {α : Type} (N n : Nat) (v104 : Int) (v105 : (List (Int × Int × Unit)) × Unit) (v106 : (List (Int × Int × Unit)) × Unit) (k0 : Bool → Option α) (k1 : Option α) : spec_BoxHalved_L0 N (n + 1) v104 v105 v106 k0 k1 = spec_BoxHalved_L0r N (fun y0 y1 y2 => spec_BoxHalved_L0 N n y0 y1 y2 k0 k1) k0 k1 v104 v105 v106 := by rw [spec_BoxHalved_L0.eq]; rfl
/-- loop.example/pinfold/spec.BoxHalved -/
noncomputable def spec_BoxHalved.b {α : Type} (N : Nat) (a36 : Int) (a37 : (List (Int × Int × Unit)) × Unit) (a38 : (List (Int × Int × Unit)) × Unit) (k0 : Bool → Option α) : Option α :=
  spec_BoxOk N a36 a37
    (fun x78 =>
      let x79 := !x78
      bif x79 then
        k0 false
      else
        spec_BoxOk N a36 a38
          (fun x80 =>
            let x81 := !x80
            bif x81 then
              k0 false
            else
              spec_BoxIs N a38 a37
                (fun x102 =>
                  let x103 := !x102
                  bif x103 then
                    k0 false
                  else
                    spec_BoxHalved_L0 N N (0 : Int) a37 a38
                      (fun x126 =>
                        k0 x126)
                      (
                        k0 false))))
theorem spec_BoxHalved.ex : ∃ f : ((α : Type) → Nat → Int → ((List (Int × Int × Unit)) × Unit) → ((List (Int × Int × Unit)) × Unit) → (Bool → Option α) → Option α), f = fun α => @spec_BoxHalved.b α := ⟨_, rfl⟩
noncomputable def spec_BoxHalved {α : Type} : Nat → Int → ((List (Int × Int × Unit)) × Unit) → ((List (Int × Int × Unit)) × Unit) → (Bool → Option α) → Option α := Classical.choose spec_BoxHalved.ex α
theorem spec_BoxHalved.eq : @spec_BoxHalved = @spec_BoxHalved.b := funext fun α => congrFun (Classical.choose_spec spec_BoxHalved.ex) α

/-- loop.example/pinfold/impl.in -/
noncomputable def impl_in.b {α : Type} (N : Nat) (a136 : Int) (a137 : Int) (a138 : Int) (k0 : Bool → Option α) : Option α :=
  let x139 := decide (a137 ≤ a136)
  bif x139 then
    let x140 := decide (a136 ≤ a138)
    k0 x140
  else
    k0 false
theorem impl_in.ex : ∃ f : ((α : Type) → Nat → Int → Int → Int → (Bool → Option α) → Option α), f = fun α => @impl_in.b α := ⟨_, rfl⟩
noncomputable def impl_in {α : Type} : Nat → Int → Int → Int → (Bool → Option α) → Option α := Classical.choose impl_in.ex α
theorem impl_in.eq : @impl_in = @impl_in.b := funext fun α => congrFun (Classical.choose_spec impl_in.ex) α

/-- loop.example/pinfold/impl.formatOf -/
noncomputable def impl_formatOf.b {α : Type} (N : Nat) (a158 : Int) (k0 : (Int × Int × Int × Int × Unit) → Bool → Option α) : Option α :=
  let x159 := (decide (a158 = (32 : Int)))
  bif x159 then
    k0 ((23 : Int), ((-149 : Int), ((127 : Int), ((2139095040 : Int), ())))) true
  else
    let x160 := (decide (a158 = (64 : Int)))
    bif x160 then
      k0 ((52 : Int), ((-1074 : Int), ((1023 : Int), ((9218868437227405312 : Int), ())))) true
    else
      k0 ((0 : Int), ((0 : Int), ((0 : Int), ((0 : Int), ())))) false
theorem impl_formatOf.ex : ∃ f : ((α : Type) → Nat → Int → ((Int × Int × Int × Int × Unit) → Bool → Option α) → Option α), f = fun α => @impl_formatOf.b α := ⟨_, rfl⟩
noncomputable def impl_formatOf {α : Type} : Nat → Int → ((Int × Int × Int × Int × Unit) → Bool → Option α) → Option α := Classical.choose impl_formatOf.ex α
theorem impl_formatOf.eq : @impl_formatOf = @impl_formatOf.b := funext fun α => congrFun (Classical.choose_spec impl_formatOf.ex) α

/-- loop.example/pinfold/impl.BitTop -/
noncomputable def impl_BitTop.b {α : Type} (N : Nat) (a157 : Int) (k0 : Int → Option α) : Option α :=
  impl_formatOf N a157
    (fun x161 _ =>
      k0 x161.2.2.2.1)
theorem impl_BitTop.ex : ∃ f : ((α : Type) → Nat → Int → (Int → Option α) → Option α), f = fun α => @impl_BitTop.b α := ⟨_, rfl⟩
noncomputable def impl_BitTop {α : Type} : Nat → Int → (Int → Option α) → Option α := Classical.choose impl_BitTop.ex α
theorem impl_BitTop.eq : @impl_BitTop = @impl_BitTop.b := funext fun α => congrFun (Classical.choose_spec impl_BitTop.ex) α

/-- loop.example/pinfold/impl.BitOk -/
noncomputable def impl_BitOk.b {α : Type} (N : Nat) (a164 : Int) (a165 : Int) (k0 : Bool → Option α) : Option α :=
  impl_formatOf N a164
    (fun x166 x167 =>
      bif x167 then
        let x168 := IntKind.i64.wrap (0 - x166.2.2.2.1)
        impl_in N a165 x168 x166.2.2.2.1
          (fun x169 =>
            k0 x169)
      else
        k0 false)
theorem impl_BitOk.ex : ∃ f : ((α : Type) → Nat → Int → Int → (Bool → Option α) → Option α), f = fun α => @impl_BitOk.b α := ⟨_, rfl⟩
noncomputable def impl_BitOk {α : Type} : Nat → Int → Int → (Bool → Option α) → Option α := Classical.choose impl_BitOk.ex α
theorem impl_BitOk.eq : @impl_BitOk = @impl_BitOk.b := funext fun α => congrFun (Classical.choose_spec impl_BitOk.ex) α

/-- loop.example/pinfold/impl.PairOk -/
noncomputable def impl_PairOk.b {α : Type} (N : Nat) (a155 : Int) (a156 : Int × Int × Unit) (k0 : Bool → Option α) : Option α :=
  impl_BitTop N a155
    (fun x163 =>
      impl_BitOk N a155 a156.1
        (fun x170 =>
          bif x170 then
            impl_BitOk N a155 a156.2.1
              (fun x171 =>
                bif x171 then
                  let x172 := decide (a156.1 ≤ a156.2.1)
                  bif x172 then
                    let x173 := !(decide (a156.1 = x163))
                    bif x173 then
                      let x174 := IntKind.i64.wrap (0 - x163)
                      let x175 := !(decide (a156.2.1 = x174))
                      k0 x175
                    else
                      k0 false
                  else
                    k0 false
                else
                  k0 false)
          else
            k0 false))
theorem impl_PairOk.ex : ∃ f : ((α : Type) → Nat → Int → (Int × Int × Unit) → (Bool → Option α) → Option α), f = fun α => @impl_PairOk.b α := ⟨_, rfl⟩
noncomputable def impl_PairOk {α : Type} : Nat → Int → (Int × Int × Unit) → (Bool → Option α) → Option α := Classical.choose impl_PairOk.ex α
theorem impl_PairOk.eq : @impl_PairOk = @impl_PairOk.b := funext fun α => congrFun (Classical.choose_spec impl_PairOk.ex) α

/-- loop.example/pinfold/impl.BoxOk$1 -/
noncomputable def impl_BoxOk_1.b {α : Type} (N : Nat) (a153 : Int × Int × Unit) (a154 : Int) (k0 : Bool → Option α) : Option α :=
  impl_PairOk N a154 a153
    (fun x176 =>
      let x177 := !x176
      k0 x177)
theorem impl_BoxOk_1.ex : ∃ f : ((α : Type) → Nat → (Int × Int × Unit) → Int → (Bool → Option α) → Option α), f = fun α => @impl_BoxOk_1.b α := ⟨_, rfl⟩
noncomputable def impl_BoxOk_1 {α : Type} : Nat → (Int × Int × Unit) → Int → (Bool → Option α) → Option α := Classical.choose impl_BoxOk_1.ex α
theorem impl_BoxOk_1.eq : @impl_BoxOk_1 = @impl_BoxOk_1.b := funext fun α => congrFun (Classical.choose_spec impl_BoxOk_1.ex) α

noncomputable def slices_IndexFunc_impl_Pair_impl_Pair__impl_BoxOk_1_L0r {α : Type} (N : Nat) (next : List (Int × Int × Unit) → Int → Int → Int → Option α) (k0 : Int → Option α) (k1 : Option α) (v147 : List (Int × Int × Unit)) (v148 : Int) (v149 : Int) (v150 : Int) : Option α :=
  let x151 := decide (v150 < v149)
  bif x151 then
    bif (decide (v150 < (0 : Int))) then
      none
    else
      match v147[v150.toNat]? with
      | some x152 =>
        impl_BoxOk_1 N x152 v148
          (fun x178 =>
            bif x178 then
              k0 v150
            else
              let x179 := (IntKind.i64.wrap (v150 + (1 : Int)))
              next v147 v148 v149 x179)
      | none => none
  else
    k1
noncomputable def slices_IndexFunc_impl_Pair_impl_Pair__impl_BoxOk_1_L0.b {α : Type} (N n : Nat) (v147 : List (Int × Int × Unit)) (v148 : Int) (v149 : Int) (v150 : Int) (k0 : Int → Option α) (k1 : Option α) : Option α :=
  Nat.rec (motive := fun _ => List (Int × Int × Unit) → Int → Int → Int → Option α) (fun _ _ _ _ => none) (fun _ next => slices_IndexFunc_impl_Pair_impl_Pair__impl_BoxOk_1_L0r N next k0 k1) n v147 v148 v149 v150
theorem slices_IndexFunc_impl_Pair_impl_Pair__impl_BoxOk_1_L0.ex : ∃ f : ((α : Type) → Nat → Nat → List (Int × Int × Unit) → Int → Int → Int → (Int → Option α) → (Option α) → Option α), f = fun α => @slices_IndexFunc_impl_Pair_impl_Pair__impl_BoxOk_1_L0.b α := ⟨_, rfl⟩
noncomputable def slices_IndexFunc_impl_Pair_impl_Pair__impl_BoxOk_1_L0 {α : Type} : Nat → Nat → List (Int × Int × Unit) → Int → Int → Int → (Int → Option α) → (Option α) → Option α := Classical.choose slices_IndexFunc_impl_Pair_impl_Pair__impl_BoxOk_1_L0.ex α
theorem slices_IndexFunc_impl_Pair_impl_Pair__impl_BoxOk_1_L0.eq : @slices_IndexFunc_impl_Pair_impl_Pair__impl_BoxOk_1_L0 = @slices_IndexFunc_impl_Pair_impl_Pair__impl_BoxOk_1_L0.b := funext fun α => congrFun (Classical.choose_spec slices_IndexFunc_impl_Pair_impl_Pair__impl_BoxOk_1_L0.ex) α
theorem slices_IndexFunc_impl_Pair_impl_Pair__impl_BoxOk_1_L0.zero {α : Type} (N : Nat) (v147 : List (Int × Int × Unit)) (v148 : Int) (v149 : Int) (v150 : Int) (k0 : Int → Option α) (k1 : Option α) : slices_IndexFunc_impl_Pair_impl_Pair__impl_BoxOk_1_L0 N 0 v147 v148 v149 v150 k0 k1 = none := by rw [slices_IndexFunc_impl_Pair_impl_Pair__impl_BoxOk_1_L0.eq]; rfl
theorem slices_IndexFunc_impl_Pair_impl_Pair__impl_BoxOk_1_L0.succ {α : Type} (N n : Nat) (v147 : List (Int × Int × Unit)) (v148 : Int) (v149 : Int) (v150 : Int) (k0 : Int → Option α) (k1 : Option α) : slices_IndexFunc_impl_Pair_impl_Pair__impl_BoxOk_1_L0 N (n + 1) v147 v148 v149 v150 k0 k1 = slices_IndexFunc_impl_Pair_impl_Pair__impl_BoxOk_1_L0r N (fun y0 y1 y2 y3 => slices_IndexFunc_impl_Pair_impl_Pair__impl_BoxOk_1_L0 N n y0 y1 y2 y3 k0 k1) k0 k1 v147 v148 v149 v150 := by rw [slices_IndexFunc_impl_Pair_impl_Pair__impl_BoxOk_1_L0.eq]; rfl
/-- slices.IndexFunc[[]loop.example/pinfold/impl.Pair,loop.example/pinfold/impl.Pair] -/
noncomputable def slices_IndexFunc_impl_Pair_impl_Pair__impl_BoxOk_1.b {α : Type} (N : Nat) (a144 : List (Int × Int × Unit)) (a145 : Int) (k0 : Int → Option α) : Option α :=
  let x146 := ((a144.length : Nat) : Int)
  slices_IndexFunc_impl_Pair_impl_Pair__impl_BoxOk_1_L0 N N a144 a145 x146 (0 : Int)
    (fun x180 =>
      k0 x180)
    (
      k0 (-1 : Int))
theorem slices_IndexFunc_impl_Pair_impl_Pair__impl_BoxOk_1.ex : ∃ f : ((α : Type) → Nat → List (Int × Int × Unit) → Int → (Int → Option α) → Option α), f = fun α => @slices_IndexFunc_impl_Pair_impl_Pair__impl_BoxOk_1.b α := ⟨_, rfl⟩
noncomputable def slices_IndexFunc_impl_Pair_impl_Pair__impl_BoxOk_1 {α : Type} : Nat → List (Int × Int × Unit) → Int → (Int → Option α) → Option α := Classical.choose slices_IndexFunc_impl_Pair_impl_Pair__impl_BoxOk_1.ex α
theorem slices_IndexFunc_impl_Pair_impl_Pair__impl_BoxOk_1.eq : @slices_IndexFunc_impl_Pair_impl_Pair__impl_BoxOk_1 = @slices_IndexFunc_impl_Pair_impl_Pair__impl_BoxOk_1.b := funext fun α => congrFun (Classical.choose_spec slices_IndexFunc_impl_Pair_impl_Pair__impl_BoxOk_1.ex) α

/-- slices.ContainsFunc[[]loop.example/pinfold/impl.Pair,loop.example/pinfold/impl.Pair] -/
noncomputable def slices_ContainsFunc_impl_Pair_impl_Pair__impl_BoxOk_1.b {α : Type} (N : Nat) (a142 : List (Int × Int × Unit)) (a143 : Int) (k0 : Bool → Option α) : Option α :=
  slices_IndexFunc_impl_Pair_impl_Pair__impl_BoxOk_1 N a142 a143
    (fun x181 =>
      let x182 := (decide ((0 : Int) ≤ x181))
      k0 x182)
theorem slices_ContainsFunc_impl_Pair_impl_Pair__impl_BoxOk_1.ex : ∃ f : ((α : Type) → Nat → List (Int × Int × Unit) → Int → (Bool → Option α) → Option α), f = fun α => @slices_ContainsFunc_impl_Pair_impl_Pair__impl_BoxOk_1.b α := ⟨_, rfl⟩
noncomputable def slices_ContainsFunc_impl_Pair_impl_Pair__impl_BoxOk_1 {α : Type} : Nat → List (Int × Int × Unit) → Int → (Bool → Option α) → Option α := Classical.choose slices_ContainsFunc_impl_Pair_impl_Pair__impl_BoxOk_1.ex α
theorem slices_ContainsFunc_impl_Pair_impl_Pair__impl_BoxOk_1.eq : @slices_ContainsFunc_impl_Pair_impl_Pair__impl_BoxOk_1 = @slices_ContainsFunc_impl_Pair_impl_Pair__impl_BoxOk_1.b := funext fun α => congrFun (Classical.choose_spec slices_ContainsFunc_impl_Pair_impl_Pair__impl_BoxOk_1.ex) α

/-- loop.example/pinfold/impl.BoxOk -/
noncomputable def impl_BoxOk.b {α : Type} (N : Nat) (a133 : Int) (a134 : (List (Int × Int × Unit)) × Unit) (k0 : Bool → Option α) : Option α :=
  let x135 := ((a134.1.length : Nat) : Int)
  impl_in N x135 (1 : Int) (6 : Int)
    (fun x141 =>
      bif x141 then
        slices_ContainsFunc_impl_Pair_impl_Pair__impl_BoxOk_1 N a134.1 a133
          (fun x183 =>
            let x184 := !x183
            k0 x184)
      else
        k0 false)
theorem impl_BoxOk.ex : ∃ f : ((α : Type) → Nat → Int → ((List (Int × Int × Unit)) × Unit) → (Bool → Option α) → Option α), f = fun α => @impl_BoxOk.b α := ⟨_, rfl⟩
noncomputable def impl_BoxOk {α : Type} : Nat → Int → ((List (Int × Int × Unit)) × Unit) → (Bool → Option α) → Option α := Classical.choose impl_BoxOk.ex α
theorem impl_BoxOk.eq : @impl_BoxOk = @impl_BoxOk.b := funext fun α => congrFun (Classical.choose_spec impl_BoxOk.ex) α

/-- loop.example/pinfold/impl.PairIs -/
noncomputable def impl_PairIs.b {α : Type} (N : Nat) (a204 : Int × Int × Unit) (a205 : Int × Int × Unit) (k0 : Bool → Option α) : Option α :=
  let x206 := decide (a205.1 ≤ a204.1)
  bif x206 then
    let x207 := decide (a204.2.1 ≤ a205.2.1)
    k0 x207
  else
    k0 false
theorem impl_PairIs.ex : ∃ f : ((α : Type) → Nat → (Int × Int × Unit) → (Int × Int × Unit) → (Bool → Option α) → Option α), f = fun α => @impl_PairIs.b α := ⟨_, rfl⟩
noncomputable def impl_PairIs {α : Type} : Nat → (Int × Int × Unit) → (Int × Int × Unit) → (Bool → Option α) → Option α := Classical.choose impl_PairIs.ex α
theorem impl_PairIs.eq : @impl_PairIs = @impl_PairIs.b := funext fun α => congrFun (Classical.choose_spec impl_PairIs.ex) α

noncomputable def slices_EqualFunc_impl_Pair_impl_Pair_impl_Pair_impl_Pair__impl_PairIs_L0r {α : Type} (N : Nat) (next : List (Int × Int × Unit) → List (Int × Int × Unit) → Int → Int → Option α) (k0 : Bool → Option α) (k1 : Option α) (v197 : List (Int × Int × Unit)) (v198 : List (Int × Int × Unit)) (v199 : Int) (v200 : Int) : Option α :=
  let x201 := decide (v200 < v199)
  bif x201 then
    bif (decide (v200 < (0 : Int))) then
      none
    else
      match v198[v200.toNat]? with
      | some x202 =>
        bif (decide (v200 < (0 : Int))) then
          none
        else
          match v197[v200.toNat]? with
          | some x203 =>
            impl_PairIs N x202 x203
              (fun x208 =>
                let x209 := !x208
                bif x209 then
                  k0 false
                else
                  let x210 := (IntKind.i64.wrap (v200 + (1 : Int)))
                  next v197 v198 v199 x210)
          | none => none
      | none => none
  else
    k1
noncomputable def slices_EqualFunc_impl_Pair_impl_Pair_impl_Pair_impl_Pair__impl_PairIs_L0.b {α : Type} (N n : Nat) (v197 : List (Int × Int × Unit)) (v198 : List (Int × Int × Unit)) (v199 : Int) (v200 : Int) (k0 : Bool → Option α) (k1 : Option α) : Option α :=
  Nat.rec (motive := fun _ => List (Int × Int × Unit) → List (Int × Int × Unit) → Int → Int → Option α) (fun _ _ _ _ => none) (fun _ next => slices_EqualFunc_impl_Pair_impl_Pair_impl_Pair_impl_Pair__impl_PairIs_L0r N next k0 k1) n v197 v198 v199 v200
theorem slices_EqualFunc_impl_Pair_impl_Pair_impl_Pair_impl_Pair__impl_PairIs_L0.ex : ∃ f : ((α : Type) → Nat → Nat → List (Int × Int × Unit) → List (Int × Int × Unit) → Int → Int → (Bool → Option α) → (Option α) → Option α), f = fun α => @slices_EqualFunc_impl_Pair_impl_Pair_impl_Pair_impl_Pair__impl_PairIs_L0.b α := ⟨_, rfl⟩
noncomputable def slices_EqualFunc_impl_Pair_impl_Pair_impl_Pair_impl_Pair__impl_PairIs_L0 {α : Type} : Nat → Nat → List (Int × Int × Unit) → List (Int × Int × Unit) → Int → Int → (Bool → Option α) → (Option α) → Option α := Classical.choose slices_EqualFunc_impl_Pair_impl_Pair_impl_Pair_impl_Pair__impl_PairIs_L0.ex α
theorem slices_EqualFunc_impl_Pair_impl_Pair_impl_Pair_impl_Pair__impl_PairIs_L0.eq : @slices_EqualFunc_impl_Pair_impl_Pair_impl_Pair_impl_Pair__impl_PairIs_L0 = @slices_EqualFunc_impl_Pair_impl_Pair_impl_Pair_impl_Pair__impl_PairIs_L0.b := funext fun α => congrFun (Classical.choose_spec slices_EqualFunc_impl_Pair_impl_Pair_impl_Pair_impl_Pair__impl_PairIs_L0.ex) α
theorem slices_EqualFunc_impl_Pair_impl_Pair_impl_Pair_impl_Pair__impl_PairIs_L0.zero {α : Type} (N : Nat) (v197 : List (Int × Int × Unit)) (v198 : List (Int × Int × Unit)) (v199 : Int) (v200 : Int) (k0 : Bool → Option α) (k1 : Option α) : slices_EqualFunc_impl_Pair_impl_Pair_impl_Pair_impl_Pair__impl_PairIs_L0 N 0 v197 v198 v199 v200 k0 k1 = none := by rw [slices_EqualFunc_impl_Pair_impl_Pair_impl_Pair_impl_Pair__impl_PairIs_L0.eq]; rfl
theorem slices_EqualFunc_impl_Pair_impl_Pair_impl_Pair_impl_Pair__impl_PairIs_L0.succ {α : Type} (N n : Nat) (v197 : List (Int × Int × Unit)) (v198 : List (Int × Int × Unit)) (v199 : Int) (v200 : Int) (k0 : Bool → Option α) (k1 : Option α) : slices_EqualFunc_impl_Pair_impl_Pair_impl_Pair_impl_Pair__impl_PairIs_L0 N (n + 1) v197 v198 v199 v200 k0 k1 = slices_EqualFunc_impl_Pair_impl_Pair_impl_Pair_impl_Pair__impl_PairIs_L0r N (fun y0 y1 y2 y3 => slices_EqualFunc_impl_Pair_impl_Pair_impl_Pair_impl_Pair__impl_PairIs_L0 N n y0 y1 y2 y3 k0 k1) k0 k1 v197 v198 v199 v200 := by rw [slices_EqualFunc_impl_Pair_impl_Pair_impl_Pair_impl_Pair__impl_PairIs_L0.eq]; rfl
/-- slices.EqualFunc[[]loop.example/pinfold/impl.Pair,[]loop.example/pinfold/impl.Pair,loop.example/pinfold/impl.Pair,loop.example/pinfold/impl.Pair] -/
noncomputable def slices_EqualFunc_impl_Pair_impl_Pair_impl_Pair_impl_Pair__impl_PairIs.b {α : Type} (N : Nat) (a191 : List (Int × Int × Unit)) (a192 : List (Int × Int × Unit)) (k0 : Bool → Option α) : Option α :=
  let x193 := ((a191.length : Nat) : Int)
  let x194 := ((a192.length : Nat) : Int)
  let x195 := !(decide (x193 = x194))
  bif x195 then
    k0 false
  else
    let x196 := ((a191.length : Nat) : Int)
    slices_EqualFunc_impl_Pair_impl_Pair_impl_Pair_impl_Pair__impl_PairIs_L0 N N a192 a191 x196 (0 : Int)
      (fun x211 =>
        k0 x211)
      (
        k0 true)
theorem slices_EqualFunc_impl_Pair_impl_Pair_impl_Pair_impl_Pair__impl_PairIs.ex : ∃ f : ((α : Type) → Nat → List (Int × Int × Unit) → List (Int × Int × Unit) → (Bool → Option α) → Option α), f = fun α => @slices_EqualFunc_impl_Pair_impl_Pair_impl_Pair_impl_Pair__impl_PairIs.b α := ⟨_, rfl⟩
noncomputable def slices_EqualFunc_impl_Pair_impl_Pair_impl_Pair_impl_Pair__impl_PairIs {α : Type} : Nat → List (Int × Int × Unit) → List (Int × Int × Unit) → (Bool → Option α) → Option α := Classical.choose slices_EqualFunc_impl_Pair_impl_Pair_impl_Pair_impl_Pair__impl_PairIs.ex α
theorem slices_EqualFunc_impl_Pair_impl_Pair_impl_Pair_impl_Pair__impl_PairIs.eq : @slices_EqualFunc_impl_Pair_impl_Pair_impl_Pair_impl_Pair__impl_PairIs = @slices_EqualFunc_impl_Pair_impl_Pair_impl_Pair_impl_Pair__impl_PairIs.b := funext fun α => congrFun (Classical.choose_spec slices_EqualFunc_impl_Pair_impl_Pair_impl_Pair_impl_Pair__impl_PairIs.ex) α

/-- loop.example/pinfold/impl.BoxIs -/
noncomputable def impl_BoxIs.b {α : Type} (N : Nat) (a189 : (List (Int × Int × Unit)) × Unit) (a190 : (List (Int × Int × Unit)) × Unit) (k0 : Bool → Option α) : Option α :=
  slices_EqualFunc_impl_Pair_impl_Pair_impl_Pair_impl_Pair__impl_PairIs N a189.1 a190.1
    (fun x212 =>
      k0 x212)
theorem impl_BoxIs.ex : ∃ f : ((α : Type) → Nat → ((List (Int × Int × Unit)) × Unit) → ((List (Int × Int × Unit)) × Unit) → (Bool → Option α) → Option α), f = fun α => @impl_BoxIs.b α := ⟨_, rfl⟩
noncomputable def impl_BoxIs {α : Type} : Nat → ((List (Int × Int × Unit)) × Unit) → ((List (Int × Int × Unit)) × Unit) → (Bool → Option α) → Option α := Classical.choose impl_BoxIs.ex α
theorem impl_BoxIs.eq : @impl_BoxIs = @impl_BoxIs.b := funext fun α => congrFun (Classical.choose_spec impl_BoxIs.ex) α

/-- loop.example/pinfold/impl.BitGap -/
noncomputable def impl_BitGap.b {α : Type} (N : Nat) (a223 : Int) (a224 : Int) (k0 : Int → Option α) : Option α :=
  let x225 := decide (a224 < a223)
  bif x225 then
    k0 (0 : Int)
  else
    let x226 := IntKind.u64.wrap a224
    let x227 := IntKind.u64.wrap a223
    let x228 := IntKind.u64.wrap (x226 - x227)
    k0 x228
theorem impl_BitGap.ex : ∃ f : ((α : Type) → Nat → Int → Int → (Int → Option α) → Option α), f = fun α => @impl_BitGap.b α := ⟨_, rfl⟩
noncomputable def impl_BitGap {α : Type} : Nat → Int → Int → (Int → Option α) → Option α := Classical.choose impl_BitGap.ex α
theorem impl_BitGap.eq : @impl_BitGap = @impl_BitGap.b := funext fun α => congrFun (Classical.choose_spec impl_BitGap.ex) α

/-- (loop.example/pinfold/impl.Pair).steps -/
noncomputable def impl_Pair_steps.b {α : Type} (N : Nat) (a222 : Int × Int × Unit) (k0 : Int → Option α) : Option α :=
  impl_BitGap N a222.1 a222.2.1
    (fun x229 =>
      k0 x229)
theorem impl_Pair_steps.ex : ∃ f : ((α : Type) → Nat → (Int × Int × Unit) → (Int → Option α) → Option α), f = fun α => @impl_Pair_steps.b α := ⟨_, rfl⟩
noncomputable def impl_Pair_steps {α : Type} : Nat → (Int × Int × Unit) → (Int → Option α) → Option α := Classical.choose impl_Pair_steps.ex α
theorem impl_Pair_steps.eq : @impl_Pair_steps = @impl_Pair_steps.b := funext fun α => congrFun (Classical.choose_spec impl_Pair_steps.ex) α

noncomputable def impl_BoxHalved_L0r {α : Type} (N : Nat) (next : List (Int × Int × Unit) → Int → Int → ((List (Int × Int × Unit)) × Unit) → Option α) (k0 : Bool → Option α) (k1 : Option α) (v216 : List (Int × Int × Unit)) (v217 : Int) (v218 : Int) (v219 : (List (Int × Int × Unit)) × Unit) : Option α :=
  let x220 := decide (v218 < v217)
  bif x220 then
    bif (decide (v218 < (0 : Int))) then
      none
    else
      match v216[v218.toNat]? with
      | some x221 =>
        impl_Pair_steps N x221
          (fun x230 =>
            let x231 := (decide ((0 : Int) < x230))
            bif x231 then
              bif (decide (v218 < (0 : Int))) then
                none
              else
                match v219.1[v218.toNat]? with
                | some x232 =>
                  impl_Pair_steps N x232
                    (fun x233 =>
                      impl_Pair_steps N x221
                        (fun x234 =>
                          let x235 := (IntKind.u64.wrap (Int.tdiv x234 (2 : Int)))
                          let x236 := decide (x233 ≤ x235)
                          bif x236 then
                            k0 true
                          else
                            let x237 := (IntKind.i64.wrap (v218 + (1 : Int)))
                            next v216 v217 x237 v219))
                | none => none
            else
              let x238 := (IntKind.i64.wrap (v218 + (1 : Int)))
              next v216 v217 x238 v219)
      | none => none
  else
    k1
noncomputable def impl_BoxHalved_L0.b {α : Type} (N n : Nat) (v216 : List (Int × Int × Unit)) (v217 : Int) (v218 : Int) (v219 : (List (Int × Int × Unit)) × Unit) (k0 : Bool → Option α) (k1 : Option α) : Option α :=
  Nat.rec (motive := fun _ => List (Int × Int × Unit) → Int → Int → ((List (Int × Int × Unit)) × Unit) → Option α) (fun _ _ _ _ => none) (fun _ next => impl_BoxHalved_L0r N next k0 k1) n v216 v217 v218 v219
theorem impl_BoxHalved_L0.ex : ∃ f : ((α : Type) → Nat → Nat → List (Int × Int × Unit) → Int → Int → ((List (Int × Int × Unit)) × Unit) → (Bool → Option α) → (Option α) → Option α), f = fun α => @impl_BoxHalved_L0.b α := ⟨_, rfl⟩
noncomputable def impl_BoxHalved_L0 {α : Type} : Nat → Nat → List (Int × Int × Unit) → Int → Int → ((List (Int × Int × Unit)) × Unit) → (Bool → Option α) → (Option α) → Option α := Classical.choose impl_BoxHalved_L0.ex α
theorem impl_BoxHalved_L0.eq : @impl_BoxHalved_L0 = @impl_BoxHalved_L0.b := funext fun α => congrFun (Classical.choose_spec impl_BoxHalved_L0.ex) α
theorem impl_BoxHalved_L0.zero {α : Type} (N : Nat) (v216 : List (Int × Int × Unit)) (v217 : Int) (v218 : Int) (v219 : (List (Int × Int × Unit)) × Unit) (k0 : Bool → Option α) (k1 : Option α) : impl_BoxHalved_L0 N 0 v216 v217 v218 v219 k0 k1 = none := by rw [impl_BoxHalved_L0.eq]; rfl
theorem impl_BoxHalved_L0.succ {α : Type} (N n : Nat) (v216 : List (Int × Int × Unit)) (v217 : Int) (v218 : Int) (v219 : (List (Int × Int × Unit)) × Unit) (k0 : Bool → Option α) (k1 : Option α) : impl_BoxHalved_L0 N (n + 1) v216 v217 v218 v219 k0 k1 = impl_BoxHalved_L0r N (fun y0 y1 y2 y3 => impl_BoxHalved_L0 N n y0 y1 y2 y3 k0 k1) k0 k1 v216 v217 v218 v219 := by rw [impl_BoxHalved_L0.eq]; rfl
/-- loop.example/pinfold/impl.BoxHalved -/
noncomputable def impl_BoxHalved.b {α : Type} (N : Nat) (a130 : Int) (a131 : (List (Int × Int × Unit)) × Unit) (a132 : (List (Int × Int × Unit)) × Unit) (k0 : Bool → Option α) : Option α :=
  impl_BoxOk N a130 a131
    (fun x185 =>
      let x186 := !x185
      bif x186 then
        k0 false
      else
        impl_BoxOk N a130 a132
          (fun x187 =>
            let x188 := !x187
            bif x188 then
              k0 false
            else
              impl_BoxIs N a132 a131
                (fun x213 =>
                  let x214 := !x213
                  bif x214 then
                    k0 false
                  else
                    let x215 := ((a131.1.length : Nat) : Int)
                    impl_BoxHalved_L0 N N a131.1 x215 (0 : Int) a132
                      (fun x239 =>
                        k0 x239)
                      (
                        k0 false))))
theorem impl_BoxHalved.ex : ∃ f : ((α : Type) → Nat → Int → ((List (Int × Int × Unit)) × Unit) → ((List (Int × Int × Unit)) × Unit) → (Bool → Option α) → Option α), f = fun α => @impl_BoxHalved.b α := ⟨_, rfl⟩
noncomputable def impl_BoxHalved {α : Type} : Nat → Int → ((List (Int × Int × Unit)) × Unit) → ((List (Int × Int × Unit)) × Unit) → (Bool → Option α) → Option α := Classical.choose impl_BoxHalved.ex α
theorem impl_BoxHalved.eq : @impl_BoxHalved = @impl_BoxHalved.b := funext fun α => congrFun (Classical.choose_spec impl_BoxHalved.ex) α

/-- loop.example/pinfold/laws.eqPair -/
noncomputable def laws_eqPair.b {α : Type} (N : Nat) (a257 : Int × Int × Unit) (a258 : Int × Int × Unit) (k0 : Bool → Option α) : Option α :=
  let x259 := !(decide (a257.1 = a258.1))
  bif x259 then
    k0 false
  else
    let x260 := !(decide (a257.2.1 = a258.2.1))
    bif x260 then
      k0 false
    else
      k0 true
theorem laws_eqPair.ex : ∃ f : ((α : Type) → Nat → (Int × Int × Unit) → (Int × Int × Unit) → (Bool → Option α) → Option α), f = fun α => @laws_eqPair.b α := ⟨_, rfl⟩
noncomputable def laws_eqPair {α : Type} : Nat → (Int × Int × Unit) → (Int × Int × Unit) → (Bool → Option α) → Option α := Classical.choose laws_eqPair.ex α
theorem laws_eqPair.eq : @laws_eqPair = @laws_eqPair.b := funext fun α => congrFun (Classical.choose_spec laws_eqPair.ex) α

noncomputable def laws_eqPairS_L0r {α : Type} (N : Nat) (next : List (Int × Int × Unit) → List (Int × Int × Unit) → Int → Option α) (k0 : Bool → Option α) (k1 : Option α) (v250 : List (Int × Int × Unit)) (v251 : List (Int × Int × Unit)) (v252 : Int) : Option α :=
  let x253 := ((v250.length : Nat) : Int)
  let x254 := decide (v252 < x253)
  bif x254 then
    bif (decide (v252 < (0 : Int))) then
      none
    else
      match v250[v252.toNat]? with
      | some x255 =>
        bif (decide (v252 < (0 : Int))) then
          none
        else
          match v251[v252.toNat]? with
          | some x256 =>
            laws_eqPair N x255 x256
              (fun x261 =>
                let x262 := !x261
                bif x262 then
                  k0 false
                else
                  let x263 := (IntKind.i64.wrap (v252 + (1 : Int)))
                  next v250 v251 x263)
          | none => none
      | none => none
  else
    k1
noncomputable def laws_eqPairS_L0.b {α : Type} (N n : Nat) (v250 : List (Int × Int × Unit)) (v251 : List (Int × Int × Unit)) (v252 : Int) (k0 : Bool → Option α) (k1 : Option α) : Option α :=
  Nat.rec (motive := fun _ => List (Int × Int × Unit) → List (Int × Int × Unit) → Int → Option α) (fun _ _ _ => none) (fun _ next => laws_eqPairS_L0r N next k0 k1) n v250 v251 v252
theorem laws_eqPairS_L0.ex : ∃ f : ((α : Type) → Nat → Nat → List (Int × Int × Unit) → List (Int × Int × Unit) → Int → (Bool → Option α) → (Option α) → Option α), f = fun α => @laws_eqPairS_L0.b α := ⟨_, rfl⟩
noncomputable def laws_eqPairS_L0 {α : Type} : Nat → Nat → List (Int × Int × Unit) → List (Int × Int × Unit) → Int → (Bool → Option α) → (Option α) → Option α := Classical.choose laws_eqPairS_L0.ex α
theorem laws_eqPairS_L0.eq : @laws_eqPairS_L0 = @laws_eqPairS_L0.b := funext fun α => congrFun (Classical.choose_spec laws_eqPairS_L0.ex) α
theorem laws_eqPairS_L0.zero {α : Type} (N : Nat) (v250 : List (Int × Int × Unit)) (v251 : List (Int × Int × Unit)) (v252 : Int) (k0 : Bool → Option α) (k1 : Option α) : laws_eqPairS_L0 N 0 v250 v251 v252 k0 k1 = none := by rw [laws_eqPairS_L0.eq]; rfl
theorem laws_eqPairS_L0.succ {α : Type} (N n : Nat) (v250 : List (Int × Int × Unit)) (v251 : List (Int × Int × Unit)) (v252 : Int) (k0 : Bool → Option α) (k1 : Option α) : laws_eqPairS_L0 N (n + 1) v250 v251 v252 k0 k1 = laws_eqPairS_L0r N (fun y0 y1 y2 => laws_eqPairS_L0 N n y0 y1 y2 k0 k1) k0 k1 v250 v251 v252 := by rw [laws_eqPairS_L0.eq]; rfl
/-- loop.example/pinfold/laws.eqPairS -/
noncomputable def laws_eqPairS.b {α : Type} (N : Nat) (a245 : List (Int × Int × Unit)) (a246 : List (Int × Int × Unit)) (k0 : Bool → Option α) : Option α :=
  let x247 := ((a245.length : Nat) : Int)
  let x248 := ((a246.length : Nat) : Int)
  let x249 := !(decide (x247 = x248))
  bif x249 then
    k0 false
  else
    laws_eqPairS_L0 N N a245 a246 (0 : Int)
      (fun x264 =>
        k0 x264)
      (
        k0 true)
theorem laws_eqPairS.ex : ∃ f : ((α : Type) → Nat → List (Int × Int × Unit) → List (Int × Int × Unit) → (Bool → Option α) → Option α), f = fun α => @laws_eqPairS.b α := ⟨_, rfl⟩
noncomputable def laws_eqPairS {α : Type} : Nat → List (Int × Int × Unit) → List (Int × Int × Unit) → (Bool → Option α) → Option α := Classical.choose laws_eqPairS.ex α
theorem laws_eqPairS.eq : @laws_eqPairS = @laws_eqPairS.b := funext fun α => congrFun (Classical.choose_spec laws_eqPairS.ex) α

/-- loop.example/pinfold/laws.eqBox -/
noncomputable def laws_eqBox.b {α : Type} (N : Nat) (a243 : (List (Int × Int × Unit)) × Unit) (a244 : (List (Int × Int × Unit)) × Unit) (k0 : Bool → Option α) : Option α :=
  laws_eqPairS N a243.1 a244.1
    (fun x265 =>
      let x266 := !x265
      bif x266 then
        k0 false
      else
        k0 true)
theorem laws_eqBox.ex : ∃ f : ((α : Type) → Nat → ((List (Int × Int × Unit)) × Unit) → ((List (Int × Int × Unit)) × Unit) → (Bool → Option α) → Option α), f = fun α => @laws_eqBox.b α := ⟨_, rfl⟩
noncomputable def laws_eqBox {α : Type} : Nat → ((List (Int × Int × Unit)) × Unit) → ((List (Int × Int × Unit)) × Unit) → (Bool → Option α) → Option α := Classical.choose laws_eqBox.ex α
theorem laws_eqBox.eq : @laws_eqBox = @laws_eqBox.b := funext fun α => congrFun (Classical.choose_spec laws_eqBox.ex) α

/-- loop.example/pinfold/laws.FnExactBoxHalved -/
noncomputable def laws_FnExactBoxHalved.b {α : Type} (N : Nat) (a1 : Int) (a2 : (List (Int × Int × Unit)) × Unit) (a3 : (List (Int × Int × Unit)) × Unit) (k0 : Bool → Option α) : Option α :=
  laws_szBox N a2 (1048576 : Int)
    (fun x13 =>
      let x14 := (decide (x13 < (0 : Int)))
      bif x14 then
        k0 true
      else
        laws_szBox N a3 x13
          (fun x15 =>
            let x16 := (decide (x15 < (0 : Int)))
            bif x16 then
              k0 true
            else
              laws_toBox N a2
                (fun x34 =>
                  laws_toBox N a3
                    (fun x35 =>
                      spec_BoxHalved N a1 (x34, ()) (x35, ())
                        (fun x127 =>
                          laws_toBox N a2
                            (fun x128 =>
                              laws_toBox N a3
                                (fun x129 =>
                                  impl_BoxHalved N a1 (x128, ()) (x129, ())
                                    (fun x240 =>
                                      let x241 := !(x240 == x127)
                                      bif x241 then
                                        k0 false
                                      else
                                        laws_toBox N a2
                                          (fun x242 =>
                                            laws_eqBox N (x128, ()) (x242, ())
                                              (fun x267 =>
                                                let x268 := !x267
                                                bif x268 then
                                                  k0 false
                                                else
                                                  laws_toBox N a3
                                                    (fun x269 =>
                                                      laws_eqBox N (x129, ()) (x269, ())
                                                        (fun x270 =>
                                                          let x271 := !x270
                                                          bif x271 then
                                                            k0 false
                                                          else
                                                            k0 true))))))))))))
theorem laws_FnExactBoxHalved.ex : ∃ f : ((α : Type) → Nat → Int → ((List (Int × Int × Unit)) × Unit) → ((List (Int × Int × Unit)) × Unit) → (Bool → Option α) → Option α), f = fun α => @laws_FnExactBoxHalved.b α := ⟨_, rfl⟩
noncomputable def laws_FnExactBoxHalved {α : Type} : Nat → Int → ((List (Int × Int × Unit)) × Unit) → ((List (Int × Int × Unit)) × Unit) → (Bool → Option α) → Option α := Classical.choose laws_FnExactBoxHalved.ex α
theorem laws_FnExactBoxHalved.eq : @laws_FnExactBoxHalved = @laws_FnExactBoxHalved.b := funext fun α => congrFun (Classical.choose_spec laws_FnExactBoxHalved.ex) α

end
end Go.Proofs.YtaelbfbplamahaaAm
