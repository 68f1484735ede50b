/-
  The functions that the program computes, as the abstract machine tells them. Printed by amp.py.
-/
import Derived.Test.YtaelbfbplamahaaAmb
namespace Go.Proofs.YtaelbfbplamahaaAm
open Go
noncomputable section
set_option linter.unusedVariables false
set_option linter.unusedSimpArgs false

/-- loop.example/pinfold/laws.szPairS -/
noncomputable def laws_szPairS.b {α : Type} (N : Nat) (a5 : List (Int × Int × Unit)) (a6 : Int) (k0 : Int → Option α) : Option α :=
  let x7 := ((a5.length : Nat) : Int)
  let x8 := IntKind.i64.wrap (a6 - x7)
  let x9 := (decide (x8 < (0 : Int)))
  bif x9 then
    k0 (-1 : Int)
  else
    k0 x8
theorem laws_szPairS.ex : ∃ f : ((α : Type) → Nat → List (Int × Int × Unit) → Int → (Int → Option α) → Option α), f = fun α => @laws_szPairS.b α := ⟨_, rfl⟩
noncomputable def laws_szPairS {α : Type} : Nat → List (Int × Int × Unit) → Int → (Int → Option α) → Option α := Classical.choose laws_szPairS.ex α
theorem laws_szPairS.eq : @laws_szPairS = @laws_szPairS.b := funext fun α => congrFun (Classical.choose_spec laws_szPairS.ex) α

/-- loop.example/pinfold/laws.szBox -/
noncomputable def laws_szBox.b {α : Type} (N : Nat) (a3 : (List (Int × Int × Unit)) × Unit) (a4 : Int) (k0 : Int → Option α) : Option α :=
  laws_szPairS N a3.1 a4
    (fun x10 =>
      let x11 := (decide (x10 < (0 : Int)))
      bif x11 then
        k0 (-1 : Int)
      else
        k0 x10)
theorem laws_szBox.ex : ∃ f : ((α : Type) → Nat → ((List (Int × Int × Unit)) × Unit) → Int → (Int → Option α) → Option α), f = fun α => @laws_szBox.b α := ⟨_, rfl⟩
noncomputable def laws_szBox {α : Type} : Nat → ((List (Int × Int × Unit)) × Unit) → Int → (Int → Option α) → Option α := Classical.choose laws_szBox.ex α
theorem laws_szBox.eq : @laws_szBox = @laws_szBox.b := funext fun α => congrFun (Classical.choose_spec laws_szBox.ex) α

/-- loop.example/pinfold/laws.toPair -/
noncomputable def laws_toPair.b {α : Type} (N : Nat) (a24 : Int × Int × Unit) (k0 : (Int × Int × Unit) → Option α) : Option α :=
  k0 (a24.1, (a24.2.1, ()))
theorem laws_toPair.ex : ∃ f : ((α : Type) → Nat → (Int × Int × Unit) → ((Int × Int × Unit) → Option α) → Option α), f = fun α => @laws_toPair.b α := ⟨_, rfl⟩
noncomputable def laws_toPair {α : Type} : Nat → (Int × Int × Unit) → ((Int × Int × Unit) → Option α) → Option α := Classical.choose laws_toPair.ex α
theorem laws_toPair.eq : @laws_toPair = @laws_toPair.b := funext fun α => congrFun (Classical.choose_spec laws_toPair.ex) α

noncomputable def laws_toPairS_L0r {α : Type} (N : Nat) (next : List (Int × Int × Unit) → Int → List (Int × Int × Unit) → Option α) (k0 : List (Int × Int × Unit) → Option α) (v18 : List (Int × Int × Unit)) (v19 : Int) (v20 : List (Int × Int × Unit)) : Option α :=
  let x21 := ((v18.length : Nat) : Int)
  let x22 := decide (v19 < x21)
  bif x22 then
    bif (decide (v19 < (0 : Int))) then
      none
    else
      match v18[v19.toNat]? with
      | some x23 =>
        laws_toPair N x23
          (fun x25 =>
            bif (decide (v19 < (0 : Int))) then
              none
            else
              bif decide (v19.toNat < v20.length) then
                match v20[v19.toNat]? with
                | some x26 =>
                  let x27 := v20.set v19.toNat x25
                  let x28 := (IntKind.i64.wrap (v19 + (1 : Int)))
                  next v18 x28 x27
                | none => none
              else
                none)
      | none => none
  else
    k0 v20
noncomputable def laws_toPairS_L0.b {α : Type} (N n : Nat) (v18 : List (Int × Int × Unit)) (v19 : Int) (v20 : List (Int × Int × Unit)) (k0 : List (Int × Int × Unit) → Option α) : Option α :=
  Nat.rec (motive := fun _ => List (Int × Int × Unit) → Int → List (Int × Int × Unit) → Option α) (fun _ _ _ => none) (fun _ next => laws_toPairS_L0r N next k0) n v18 v19 v20
theorem laws_toPairS_L0.ex : ∃ f : ((α : Type) → Nat → Nat → List (Int × Int × Unit) → Int → List (Int × Int × Unit) → (List (Int × Int × Unit) → Option α) → Option α), f = fun α => @laws_toPairS_L0.b α := ⟨_, rfl⟩
noncomputable def laws_toPairS_L0 {α : Type} : Nat → Nat → List (Int × Int × Unit) → Int → List (Int × Int × Unit) → (List (Int × Int × Unit) → Option α) → Option α := Classical.choose laws_toPairS_L0.ex α
theorem laws_toPairS_L0.eq : @laws_toPairS_L0 = @laws_toPairS_L0.b := funext fun α => congrFun (Classical.choose_spec laws_toPairS_L0.ex) α
theorem laws_toPairS_L0.zero {α : Type} (N : Nat) (v18 : List (Int × Int × Unit)) (v19 : Int) (v20 : List (Int × Int × Unit)) (k0 : List (Int × Int × Unit) → Option α) : laws_toPairS_L0 N 0 v18 v19 v20 k0 = none := by rw [laws_toPairS_L0.eq]; rfl
theorem laws_toPairS_L0.succ {α : Type} (N n : Nat) (v18 : List (Int × Int × Unit)) (v19 : Int) (v20 : List (Int × Int × Unit)) (k0 : List (Int × Int × Unit) → Option α) : laws_toPairS_L0 N (n + 1) v18 v19 v20 k0 = laws_toPairS_L0r N (fun y0 y1 y2 => laws_toPairS_L0 N n y0 y1 y2 k0) k0 v18 v19 v20 := by rw [laws_toPairS_L0.eq]; rfl
/-- loop.example/pinfold/laws.toPairS -/
noncomputable def laws_toPairS.b {α : Type} (N : Nat) (a15 : List (Int × Int × Unit)) (k0 : List (Int × Int × Unit) → Option α) : Option α :=
  let x16 := ((a15.length : Nat) : Int)
  bif (decide ((0 : Int) ≤ x16)) then
    bif decide (x16 ≤ x16) then
      bif (decide (x16 ≤ ((8796093022208 : Nat) : Int))) then
        let x17 := (List.replicate x16.toNat ((0 : Int), ((0 : Int), ())))
        laws_toPairS_L0 N N a15 (0 : Int) x17
          (fun x29 =>
            k0 x29)
      else
        none
    else
      none
  else
    none
theorem laws_toPairS.ex : ∃ f : ((α : Type) → Nat → List (Int × Int × Unit) → (List (Int × Int × Unit) → Option α) → Option α), f = fun α => @laws_toPairS.b α := ⟨_, rfl⟩
noncomputable def laws_toPairS {α : Type} : Nat → List (Int × Int × Unit) → (List (Int × Int × Unit) → Option α) → Option α := Classical.choose laws_toPairS.ex α
theorem laws_toPairS.eq : @laws_toPairS = @laws_toPairS.b := funext fun α => congrFun (Classical.choose_spec laws_toPairS.ex) α

/-- loop.example/pinfold/laws.toBox -/
noncomputable def laws_toBox.b {α : Type} (N : Nat) (a14 : (List (Int × Int × Unit)) × Unit) (k0 : List (Int × Int × Unit) → Option α) : Option α :=
  laws_toPairS N a14.1
    (fun x30 =>
      k0 x30)
theorem laws_toBox.ex : ∃ f : ((α : Type) → Nat → ((List (Int × Int × Unit)) × Unit) → (List (Int × Int × Unit) → Option α) → Option α), f = fun α => @laws_toBox.b α := ⟨_, rfl⟩
noncomputable def laws_toBox {α : Type} : Nat → ((List (Int × Int × Unit)) × Unit) → (List (Int × Int × Unit) → Option α) → Option α := Classical.choose laws_toBox.ex α
theorem laws_toBox.eq : @laws_toBox = @laws_toBox.b := funext fun α => congrFun (Classical.choose_spec laws_toBox.ex) α

/-- loop.example/pinfold/spec.BitTop -/
noncomputable def spec_BitTop.b {α : Type} (N : Nat) (a48 : Int) (k0 : Int → Option α) : Option α :=
  let x49 := (decide (a48 = (32 : Int)))
  bif x49 then
    k0 (2139095040 : Int)
  else
    let x50 := (decide (a48 = (64 : Int)))
    bif x50 then
      k0 (9218868437227405312 : Int)
    else
      k0 (0 : Int)
theorem spec_BitTop.ex : ∃ f : ((α : Type) → Nat → Int → (Int → Option α) → Option α), f = fun α => @spec_BitTop.b α := ⟨_, rfl⟩
noncomputable def spec_BitTop {α : Type} : Nat → Int → (Int → Option α) → Option α := Classical.choose spec_BitTop.ex α
theorem spec_BitTop.eq : @spec_BitTop = @spec_BitTop.b := funext fun α => congrFun (Classical.choose_spec spec_BitTop.ex) α

/-- loop.example/pinfold/spec.l1Width -/
noncomputable def spec_l1Width.b {α : Type} (N : Nat) (a54 : Int) (k0 : Bool → Option α) : Option α :=
  let x55 := (decide (a54 = (32 : Int)))
  bif x55 then
    k0 true
  else
    let x56 := (decide (a54 = (64 : Int)))
    k0 x56
theorem spec_l1Width.ex : ∃ f : ((α : Type) → Nat → Int → (Bool → Option α) → Option α), f = fun α => @spec_l1Width.b α := ⟨_, rfl⟩
noncomputable def spec_l1Width {α : Type} : Nat → Int → (Bool → Option α) → Option α := Classical.choose spec_l1Width.ex α
theorem spec_l1Width.eq : @spec_l1Width = @spec_l1Width.b := funext fun α => congrFun (Classical.choose_spec spec_l1Width.ex) α

/-- loop.example/pinfold/spec.BitOk -/
noncomputable def spec_BitOk.b {α : Type} (N : Nat) (a52 : Int) (a53 : Int) (k0 : Bool → Option α) : Option α :=
  spec_l1Width N a52
    (fun x57 =>
      bif x57 then
        spec_BitTop N a52
          (fun x58 =>
            let x59 := IntKind.i64.wrap (0 - x58)
            let x60 := decide (x59 ≤ a53)
            bif x60 then
              spec_BitTop N a52
                (fun x61 =>
                  let x62 := decide (a53 ≤ x61)
                  k0 x62)
            else
              k0 false)
      else
        k0 false)
theorem spec_BitOk.ex : ∃ f : ((α : Type) → Nat → Int → Int → (Bool → Option α) → Option α), f = fun α => @spec_BitOk.b α := ⟨_, rfl⟩
noncomputable def spec_BitOk {α : Type} : Nat → Int → Int → (Bool → Option α) → Option α := Classical.choose spec_BitOk.ex α
theorem spec_BitOk.eq : @spec_BitOk = @spec_BitOk.b := funext fun α => congrFun (Classical.choose_spec spec_BitOk.ex) α

/-- loop.example/pinfold/spec.PairOk -/
noncomputable def spec_PairOk.b {α : Type} (N : Nat) (a46 : Int) (a47 : Int × Int × Unit) (k0 : Bool → Option α) : Option α :=
  spec_BitTop N a46
    (fun x51 =>
      spec_BitOk N a46 a47.1
        (fun x63 =>
          bif x63 then
            spec_BitOk N a46 a47.2.1
              (fun x64 =>
                bif x64 then
                  let x65 := decide (a47.1 ≤ a47.2.1)
                  bif x65 then
                    let x66 := decide (a47.1 < x51)
                    bif x66 then
                      let x67 := IntKind.i64.wrap (0 - x51)
                      let x68 := decide (x67 < a47.2.1)
                      k0 x68
                    else
                      k0 false
                  else
                    k0 false
                else
                  k0 false)
          else
            k0 false))
theorem spec_PairOk.ex : ∃ f : ((α : Type) → Nat → Int → (Int × Int × Unit) → (Bool → Option α) → Option α), f = fun α => @spec_PairOk.b α := ⟨_, rfl⟩
noncomputable def spec_PairOk {α : Type} : Nat → Int → (Int × Int × Unit) → (Bool → Option α) → Option α := Classical.choose spec_PairOk.ex α
theorem spec_PairOk.eq : @spec_PairOk = @spec_PairOk.b := funext fun α => congrFun (Classical.choose_spec spec_PairOk.ex) α

noncomputable def spec_BoxOk_L0r {α : Type} (N : Nat) (next : Int → Int → ((List (Int × Int × Unit)) × Unit) → Option α) (k0 : Bool → Option α) (k1 : Option α) (v40 : Int) (v41 : Int) (v42 : (List (Int × Int × Unit)) × Unit) : Option α :=
  let x43 := ((v42.1.length : Nat) : Int)
  let x44 := decide (v41 < x43)
  bif x44 then
    bif (decide (v41 < (0 : Int))) then
      none
    else
      match v42.1[v41.toNat]? with
      | some x45 =>
        spec_PairOk N v40 x45
          (fun x69 =>
            let x70 := !x69
            bif x70 then
              k0 false
            else
              let x71 := (IntKind.i64.wrap (v41 + (1 : Int)))
              next v40 x71 v42)
      | none => none
  else
    k1
noncomputable def spec_BoxOk_L0.b {α : Type} (N n : Nat) (v40 : Int) (v41 : Int) (v42 : (List (Int × Int × Unit)) × Unit) (k0 : Bool → Option α) (k1 : Option α) : Option α :=
  Nat.rec (motive := fun _ => Int → Int → ((List (Int × Int × Unit)) × Unit) → Option α) (fun _ _ _ => none) (fun _ next => spec_BoxOk_L0r N next k0 k1) n v40 v41 v42
theorem spec_BoxOk_L0.ex : ∃ f : ((α : Type) → Nat → Nat → Int → Int → ((List (Int × Int × Unit)) × Unit) → (Bool → Option α) → (Option α) → Option α), f = fun α => @spec_BoxOk_L0.b α := ⟨_, rfl⟩
noncomputable def spec_BoxOk_L0 {α : Type} : Nat → Nat → Int → Int → ((List (Int × Int × Unit)) × Unit) → (Bool → Option α) → (Option α) → Option α := Classical.choose spec_BoxOk_L0.ex α
theorem spec_BoxOk_L0.eq : @spec_BoxOk_L0 = @spec_BoxOk_L0.b := funext fun α => congrFun (Classical.choose_spec spec_BoxOk_L0.ex) α
theorem spec_BoxOk_L0.zero {α : Type} (N : Nat) (v40 : Int) (v41 : Int) (v42 : (List (Int × Int × Unit)) × Unit) (k0 : Bool → Option α) (k1 : Option α) : spec_BoxOk_L0 N 0 v40 v41 v42 k0 k1 = none := by rw [spec_BoxOk_L0.eq]; rfl
theorem spec_BoxOk_L0.succ {α : Type} (N n : Nat) (v40 : Int) (v41 : Int) (v42 : (List (Int × Int × Unit)) × Unit) (k0 : Bool → Option α) (k1 : Option α) : spec_BoxOk_L0 N (n + 1) v40 v41 v42 k0 k1 = spec_BoxOk_L0r N (fun y0 y1 y2 => spec_BoxOk_L0 N n y0 y1 y2 k0 k1) k0 k1 v40 v41 v42 := by rw [spec_BoxOk_L0.eq]; rfl
/-- loop.example/pinfold/spec.BoxOk -/
noncomputable def spec_BoxOk.b {α : Type} (N : Nat) (a34 : Int) (a35 : (List (Int × Int × Unit)) × Unit) (k0 : Bool → Option α) : Option α :=
  let x36 := ((a35.1.length : Nat) : Int)
  let x37 := (decide (x36 < (1 : Int)))
  bif x37 then
    k0 false
  else
    let x38 := ((a35.1.length : Nat) : Int)
    let x39 := (decide ((6 : Int) < x38))
    bif x39 then
      k0 false
    else
      spec_BoxOk_L0 N N a34 (0 : Int) a35
        (fun x72 =>
          k0 x72)
        (
          k0 true)
theorem spec_BoxOk.ex : ∃ f : ((α : Type) → Nat → Int → ((List (Int × Int × Unit)) × Unit) → (Bool → Option α) → Option α), f = fun α => @spec_BoxOk.b α := ⟨_, rfl⟩
noncomputable def spec_BoxOk {α : Type} : Nat → Int → ((List (Int × Int × Unit)) × Unit) → (Bool → Option α) → Option α := Classical.choose spec_BoxOk.ex α
theorem spec_BoxOk.eq : @spec_BoxOk = @spec_BoxOk.b := funext fun α => congrFun (Classical.choose_spec spec_BoxOk.ex) α

/-- loop.example/pinfold/spec.BitGap -/
noncomputable def spec_BitGap.b {α : Type} (N : Nat) (a82 : Int) (a83 : Int) (k0 : Int → Option α) : Option α :=
  let x84 := decide (a83 < a82)
  bif x84 then
    k0 (0 : Int)
  else
    let x85 := IntKind.u64.wrap a83
    let x86 := IntKind.u64.wrap a82
    let x87 := IntKind.u64.wrap (x85 - x86)
    k0 x87
theorem spec_BitGap.ex : ∃ f : ((α : Type) → Nat → Int → Int → (Int → Option α) → Option α), f = fun α => @spec_BitGap.b α := ⟨_, rfl⟩
noncomputable def spec_BitGap {α : Type} : Nat → Int → Int → (Int → Option α) → Option α := Classical.choose spec_BitGap.ex α
theorem spec_BitGap.eq : @spec_BitGap = @spec_BitGap.b := funext fun α => congrFun (Classical.choose_spec spec_BitGap.ex) α

/-- loop.example/pinfold/spec.l3Gap -/
noncomputable def spec_l3Gap.b {α : Type} (N : Nat) (a81 : Int × Int × Unit) (k0 : Int → Option α) : Option α :=
  spec_BitGap N a81.1 a81.2.1
    (fun x88 =>
      k0 x88)
theorem spec_l3Gap.ex : ∃ f : ((α : Type) → Nat → (Int × Int × Unit) → (Int → Option α) → Option α), f = fun α => @spec_l3Gap.b α := ⟨_, rfl⟩
noncomputable def spec_l3Gap {α : Type} : Nat → (Int × Int × Unit) → (Int → Option α) → Option α := Classical.choose spec_l3Gap.ex α
theorem spec_l3Gap.eq : @spec_l3Gap = @spec_l3Gap.b := funext fun α => congrFun (Classical.choose_spec spec_l3Gap.ex) α

noncomputable def spec_BoxUnits_L0r {α : Type} (N : Nat) (next : Int → Int → ((List (Int × Int × Unit)) × Unit) → Option α) (k0 : Int → Option α) (k1 : Int → Option α) (v75 : Int) (v76 : Int) (v77 : (List (Int × Int × Unit)) × Unit) : Option α :=
  let x78 := ((v77.1.length : Nat) : Int)
  let x79 := decide (v76 < x78)
  bif x79 then
    bif (decide (v76 < (0 : Int))) then
      none
    else
      match v77.1[v76.toNat]? with
      | some x80 =>
        spec_l3Gap N x80
          (fun x89 =>
            let x90 := (decide (x89 = (0 : Int)))
            bif x90 then
              let x91 := (IntKind.i64.wrap (v76 + (1 : Int)))
              next v75 x91 v77
            else
              let x92 := (decide ((1000000000 : Int) < x89))
              bif x92 then
                k0 (1000000000 : Int)
              else
                let x93 := IntKind.i64.wrap x89
                let x94 := (IntKind.i64.wrap ((4 : Int) * x93))
                let x95 := (IntKind.i64.wrap (x94 - (1 : Int)))
                let x96 := IntKind.i64.wrap (v75 * x95)
                let x97 := (decide ((1000000000 : Int) ≤ x96))
                bif x97 then
                  k0 (1000000000 : Int)
                else
                  let x98 := (IntKind.i64.wrap (v76 + (1 : Int)))
                  next x96 x98 v77)
      | none => none
  else
    k1 v75
noncomputable def spec_BoxUnits_L0.b {α : Type} (N n : Nat) (v75 : Int) (v76 : Int) (v77 : (List (Int × Int × Unit)) × Unit) (k0 : Int → Option α) (k1 : Int → Option α) : Option α :=
  Nat.rec (motive := fun _ => Int → Int → ((List (Int × Int × Unit)) × Unit) → Option α) (fun _ _ _ => none) (fun _ next => spec_BoxUnits_L0r N next k0 k1) n v75 v76 v77
theorem spec_BoxUnits_L0.ex : ∃ f : ((α : Type) → Nat → Nat → Int → Int → ((List (Int × Int × Unit)) × Unit) → (Int → Option α) → (Int → Option α) → Option α), f = fun α => @spec_BoxUnits_L0.b α := ⟨_, rfl⟩
noncomputable def spec_BoxUnits_L0 {α : Type} : Nat → Nat → Int → Int → ((List (Int × Int × Unit)) × Unit) → (Int → Option α) → (Int → Option α) → Option α := Classical.choose spec_BoxUnits_L0.ex α
theorem spec_BoxUnits_L0.eq : @spec_BoxUnits_L0 = @spec_BoxUnits_L0.b := funext fun α => congrFun (Classical.choose_spec spec_BoxUnits_L0.ex) α
theorem spec_BoxUnits_L0.zero {α : Type} (N : Nat) (v75 : Int) (v76 : Int) (v77 : (List (Int × Int × Unit)) × Unit) (k0 : Int → Option α) (k1 : Int → Option α) : spec_BoxUnits_L0 N 0 v75 v76 v77 k0 k1 = none := by rw [spec_BoxUnits_L0.eq]; rfl
theorem spec_BoxUnits_L0.succ {α : Type} (N n : Nat) (v75 : Int) (v76 : Int) (v77 : (List (Int × Int × Unit)) × Unit) (k0 : Int → Option α) (k1 : Int → Option α) : spec_BoxUnits_L0 N (n + 1) v75 v76 v77 k0 k1 = spec_BoxUnits_L0r N (fun y0 y1 y2 => spec_BoxUnits_L0 N n y0 y1 y2 k0 k1) k0 k1 v75 v76 v77 := by rw [spec_BoxUnits_L0.eq]; rfl
/-- loop.example/pinfold/spec.BoxUnits -/
noncomputable def spec_BoxUnits.b {α : Type} (N : Nat) (a32 : Int) (a33 : (List (Int × Int × Unit)) × Unit) (k0 : Int → Option α) : Option α :=
  spec_BoxOk N a32 a33
    (fun x73 =>
      let x74 := !x73
      bif x74 then
        k0 (0 : Int)
      else
        spec_BoxUnits_L0 N N (1 : Int) (0 : Int) a33
          (fun x99 =>
            k0 x99)
          (fun x100 =>
            k0 x100))
theorem spec_BoxUnits.ex : ∃ f : ((α : Type) → Nat → Int → ((List (Int × Int × Unit)) × Unit) → (Int → Option α) → Option α), f = fun α => @spec_BoxUnits.b α := ⟨_, rfl⟩
noncomputable def spec_BoxUnits {α : Type} : Nat → Int → ((List (Int × Int × Unit)) × Unit) → (Int → Option α) → Option α := Classical.choose spec_BoxUnits.ex α
theorem spec_BoxUnits.eq : @spec_BoxUnits = @spec_BoxUnits.b := funext fun α => congrFun (Classical.choose_spec spec_BoxUnits.ex) α

/-- loop.example/pinfold/impl.in -/
noncomputable def impl_in.b {α : Type} (N : Nat) (a108 : Int) (a109 : Int) (a110 : Int) (k0 : Bool → Option α) : Option α :=
  let x111 := decide (a109 ≤ a108)
  bif x111 then
    let x112 := decide (a108 ≤ a110)
    k0 x112
  else
    k0 false
theorem impl_in.ex : ∃ f : ((α : Type) → Nat → Int → Int → Int → (Bool → Option α) → Option α), f = fun α => @impl_in.b α := ⟨_, rfl⟩
noncomputable def impl_in {α : Type} : Nat → Int → Int → Int → (Bool → Option α) → Option α := Classical.choose impl_in.ex α
theorem impl_in.eq : @impl_in = @impl_in.b := funext fun α => congrFun (Classical.choose_spec impl_in.ex) α

/-- loop.example/pinfold/impl.formatOf -/
noncomputable def impl_formatOf.b {α : Type} (N : Nat) (a130 : Int) (k0 : (Int × Int × Int × Int × Unit) → Bool → Option α) : Option α :=
  let x131 := (decide (a130 = (32 : Int)))
  bif x131 then
    k0 ((23 : Int), ((-149 : Int), ((127 : Int), ((2139095040 : Int), ())))) true
  else
    let x132 := (decide (a130 = (64 : Int)))
    bif x132 then
      k0 ((52 : Int), ((-1074 : Int), ((1023 : Int), ((9218868437227405312 : Int), ())))) true
    else
      k0 ((0 : Int), ((0 : Int), ((0 : Int), ((0 : Int), ())))) false
theorem impl_formatOf.ex : ∃ f : ((α : Type) → Nat → Int → ((Int × Int × Int × Int × Unit) → Bool → Option α) → Option α), f = fun α => @impl_formatOf.b α := ⟨_, rfl⟩
noncomputable def impl_formatOf {α : Type} : Nat → Int → ((Int × Int × Int × Int × Unit) → Bool → Option α) → Option α := Classical.choose impl_formatOf.ex α
theorem impl_formatOf.eq : @impl_formatOf = @impl_formatOf.b := funext fun α => congrFun (Classical.choose_spec impl_formatOf.ex) α

/-- loop.example/pinfold/impl.BitTop -/
noncomputable def impl_BitTop.b {α : Type} (N : Nat) (a129 : Int) (k0 : Int → Option α) : Option α :=
  impl_formatOf N a129
    (fun x133 _ =>
      k0 x133.2.2.2.1)
theorem impl_BitTop.ex : ∃ f : ((α : Type) → Nat → Int → (Int → Option α) → Option α), f = fun α => @impl_BitTop.b α := ⟨_, rfl⟩
noncomputable def impl_BitTop {α : Type} : Nat → Int → (Int → Option α) → Option α := Classical.choose impl_BitTop.ex α
theorem impl_BitTop.eq : @impl_BitTop = @impl_BitTop.b := funext fun α => congrFun (Classical.choose_spec impl_BitTop.ex) α

/-- loop.example/pinfold/impl.BitOk -/
noncomputable def impl_BitOk.b {α : Type} (N : Nat) (a136 : Int) (a137 : Int) (k0 : Bool → Option α) : Option α :=
  impl_formatOf N a136
    (fun x138 x139 =>
      bif x139 then
        let x140 := IntKind.i64.wrap (0 - x138.2.2.2.1)
        impl_in N a137 x140 x138.2.2.2.1
          (fun x141 =>
            k0 x141)
      else
        k0 false)
theorem impl_BitOk.ex : ∃ f : ((α : Type) → Nat → Int → Int → (Bool → Option α) → Option α), f = fun α => @impl_BitOk.b α := ⟨_, rfl⟩
noncomputable def impl_BitOk {α : Type} : Nat → Int → Int → (Bool → Option α) → Option α := Classical.choose impl_BitOk.ex α
theorem impl_BitOk.eq : @impl_BitOk = @impl_BitOk.b := funext fun α => congrFun (Classical.choose_spec impl_BitOk.ex) α

/-- loop.example/pinfold/impl.PairOk -/
noncomputable def impl_PairOk.b {α : Type} (N : Nat) (a127 : Int) (a128 : Int × Int × Unit) (k0 : Bool → Option α) : Option α :=
  impl_BitTop N a127
    (fun x135 =>
      impl_BitOk N a127 a128.1
        (fun x142 =>
          bif x142 then
            impl_BitOk N a127 a128.2.1
              (fun x143 =>
                bif x143 then
                  let x144 := decide (a128.1 ≤ a128.2.1)
                  bif x144 then
                    let x145 := !(decide (a128.1 = x135))
                    bif x145 then
                      let x146 := IntKind.i64.wrap (0 - x135)
                      let x147 := !(decide (a128.2.1 = x146))
                      k0 x147
                    else
                      k0 false
                  else
                    k0 false
                else
                  k0 false)
          else
            k0 false))
theorem impl_PairOk.ex : ∃ f : ((α : Type) → Nat → Int → (Int × Int × Unit) → (Bool → Option α) → Option α), f = fun α => @impl_PairOk.b α := ⟨_, rfl⟩
noncomputable def impl_PairOk {α : Type} : Nat → Int → (Int × Int × Unit) → (Bool → Option α) → Option α := Classical.choose impl_PairOk.ex α
theorem impl_PairOk.eq : @impl_PairOk = @impl_PairOk.b := funext fun α => congrFun (Classical.choose_spec impl_PairOk.ex) α

/-- loop.example/pinfold/impl.BoxOk$1 -/
noncomputable def impl_BoxOk_1.b {α : Type} (N : Nat) (a125 : Int × Int × Unit) (a126 : Int) (k0 : Bool → Option α) : Option α :=
  impl_PairOk N a126 a125
    (fun x148 =>
      let x149 := !x148
      k0 x149)
theorem impl_BoxOk_1.ex : ∃ f : ((α : Type) → Nat → (Int × Int × Unit) → Int → (Bool → Option α) → Option α), f = fun α => @impl_BoxOk_1.b α := ⟨_, rfl⟩
noncomputable def impl_BoxOk_1 {α : Type} : Nat → (Int × Int × Unit) → Int → (Bool → Option α) → Option α := Classical.choose impl_BoxOk_1.ex α
theorem impl_BoxOk_1.eq : @impl_BoxOk_1 = @impl_BoxOk_1.b := funext fun α => congrFun (Classical.choose_spec impl_BoxOk_1.ex) α

noncomputable def slices_IndexFunc_impl_Pair_impl_Pair__impl_BoxOk_1_L0r {α : Type} (N : Nat) (next : List (Int × Int × Unit) → Int → Int → Int → Option α) (k0 : Int → Option α) (k1 : Option α) (v119 : List (Int × Int × Unit)) (v120 : Int) (v121 : Int) (v122 : Int) : Option α :=
  let x123 := decide (v122 < v121)
  bif x123 then
    bif (decide (v122 < (0 : Int))) then
      none
    else
      match v119[v122.toNat]? with
      | some x124 =>
        impl_BoxOk_1 N x124 v120
          (fun x150 =>
            bif x150 then
              k0 v122
            else
              let x151 := (IntKind.i64.wrap (v122 + (1 : Int)))
              next v119 v120 v121 x151)
      | none => none
  else
    k1
noncomputable def slices_IndexFunc_impl_Pair_impl_Pair__impl_BoxOk_1_L0.b {α : Type} (N n : Nat) (v119 : List (Int × Int × Unit)) (v120 : Int) (v121 : Int) (v122 : Int) (k0 : Int → Option α) (k1 : Option α) : Option α :=
  Nat.rec (motive := fun _ => List (Int × Int × Unit) → Int → Int → Int → Option α) (fun _ _ _ _ => none) (fun _ next => slices_IndexFunc_impl_Pair_impl_Pair__impl_BoxOk_1_L0r N next k0 k1) n v119 v120 v121 v122
theorem slices_IndexFunc_impl_Pair_impl_Pair__impl_BoxOk_1_L0.ex : ∃ f : ((α : Type) → Nat → Nat → List (Int × Int × Unit) → Int → Int → Int → (Int → Option α) → (Option α) → Option α), f = fun α => @slices_IndexFunc_impl_Pair_impl_Pair__impl_BoxOk_1_L0.b α := ⟨_, rfl⟩
noncomputable def slices_IndexFunc_impl_Pair_impl_Pair__impl_BoxOk_1_L0 {α : Type} : Nat → Nat → List (Int × Int × Unit) → Int → Int → Int → (Int → Option α) → (Option α) → Option α := Classical.choose slices_IndexFunc_impl_Pair_impl_Pair__impl_BoxOk_1_L0.ex α
theorem slices_IndexFunc_impl_Pair_impl_Pair__impl_BoxOk_1_L0.eq : @slices_IndexFunc_impl_Pair_impl_Pair__impl_BoxOk_1_L0 = @slices_IndexFunc_impl_Pair_impl_Pair__impl_BoxOk_1_L0.b := funext fun α => congrFun (Classical.choose_spec slices_IndexFunc_impl_Pair_impl_Pair__impl_BoxOk_1_L0.ex) α
theorem slices_IndexFunc_impl_Pair_impl_Pair__impl_BoxOk_1_L0.zero {α : Type} (N : Nat) (v119 : List (Int × Int × Unit)) (v120 : Int) (v121 : Int) (v122 : Int) (k0 : Int → Option α) (k1 : Option α) : slices_IndexFunc_impl_Pair_impl_Pair__impl_BoxOk_1_L0 N 0 v119 v120 v121 v122 k0 k1 = none := by rw [slices_IndexFunc_impl_Pair_impl_Pair__impl_BoxOk_1_L0.eq]; rfl
theorem slices_IndexFunc_impl_Pair_impl_Pair__impl_BoxOk_1_L0.succ {α : Type} (N n : Nat) (v119 : List (Int × Int × Unit)) (v120 : Int) (v121 : Int) (v122 : Int) (k0 : Int → Option α) (k1 : Option α) : slices_IndexFunc_impl_Pair_impl_Pair__impl_BoxOk_1_L0 N (n + 1) v119 v120 v121 v122 k0 k1 = slices_IndexFunc_impl_Pair_impl_Pair__impl_BoxOk_1_L0r N (fun y0 y1 y2 y3 => slices_IndexFunc_impl_Pair_impl_Pair__impl_BoxOk_1_L0 N n y0 y1 y2 y3 k0 k1) k0 k1 v119 v120 v121 v122 := by rw [slices_IndexFunc_impl_Pair_impl_Pair__impl_BoxOk_1_L0.eq]; rfl
/-- slices.IndexFunc[[]loop.example/pinfold/impl.Pair,loop.example/pinfold/impl.Pair] -/
noncomputable def slices_IndexFunc_impl_Pair_impl_Pair__impl_BoxOk_1.b {α : Type} (N : Nat) (a116 : List (Int × Int × Unit)) (a117 : Int) (k0 : Int → Option α) : Option α :=
  let x118 := ((a116.length : Nat) : Int)
  slices_IndexFunc_impl_Pair_impl_Pair__impl_BoxOk_1_L0 N N a116 a117 x118 (0 : Int)
    (fun x152 =>
      k0 x152)
    (
      k0 (-1 : Int))
theorem slices_IndexFunc_impl_Pair_impl_Pair__impl_BoxOk_1.ex : ∃ f : ((α : Type) → Nat → List (Int × Int × Unit) → Int → (Int → Option α) → Option α), f = fun α => @slices_IndexFunc_impl_Pair_impl_Pair__impl_BoxOk_1.b α := ⟨_, rfl⟩
noncomputable def slices_IndexFunc_impl_Pair_impl_Pair__impl_BoxOk_1 {α : Type} : Nat → List (Int × Int × Unit) → Int → (Int → Option α) → Option α := Classical.choose slices_IndexFunc_impl_Pair_impl_Pair__impl_BoxOk_1.ex α
theorem slices_IndexFunc_impl_Pair_impl_Pair__impl_BoxOk_1.eq : @slices_IndexFunc_impl_Pair_impl_Pair__impl_BoxOk_1 = @slices_IndexFunc_impl_Pair_impl_Pair__impl_BoxOk_1.b := funext fun α => congrFun (Classical.choose_spec slices_IndexFunc_impl_Pair_impl_Pair__impl_BoxOk_1.ex) α

/-- slices.ContainsFunc[[]loop.example/pinfold/impl.Pair,loop.example/pinfold/impl.Pair] -/
noncomputable def slices_ContainsFunc_impl_Pair_impl_Pair__impl_BoxOk_1.b {α : Type} (N : Nat) (a114 : List (Int × Int × Unit)) (a115 : Int) (k0 : Bool → Option α) : Option α :=
  slices_IndexFunc_impl_Pair_impl_Pair__impl_BoxOk_1 N a114 a115
    (fun x153 =>
      let x154 := (decide ((0 : Int) ≤ x153))
      k0 x154)
theorem slices_ContainsFunc_impl_Pair_impl_Pair__impl_BoxOk_1.ex : ∃ f : ((α : Type) → Nat → List (Int × Int × Unit) → Int → (Bool → Option α) → Option α), f = fun α => @slices_ContainsFunc_impl_Pair_impl_Pair__impl_BoxOk_1.b α := ⟨_, rfl⟩
noncomputable def slices_ContainsFunc_impl_Pair_impl_Pair__impl_BoxOk_1 {α : Type} : Nat → List (Int × Int × Unit) → Int → (Bool → Option α) → Option α := Classical.choose slices_ContainsFunc_impl_Pair_impl_Pair__impl_BoxOk_1.ex α
theorem slices_ContainsFunc_impl_Pair_impl_Pair__impl_BoxOk_1.eq : @slices_ContainsFunc_impl_Pair_impl_Pair__impl_BoxOk_1 = @slices_ContainsFunc_impl_Pair_impl_Pair__impl_BoxOk_1.b := funext fun α => congrFun (Classical.choose_spec slices_ContainsFunc_impl_Pair_impl_Pair__impl_BoxOk_1.ex) α

/-- loop.example/pinfold/impl.BoxOk -/
noncomputable def impl_BoxOk.b {α : Type} (N : Nat) (a105 : Int) (a106 : (List (Int × Int × Unit)) × Unit) (k0 : Bool → Option α) : Option α :=
  let x107 := ((a106.1.length : Nat) : Int)
  impl_in N x107 (1 : Int) (6 : Int)
    (fun x113 =>
      bif x113 then
        slices_ContainsFunc_impl_Pair_impl_Pair__impl_BoxOk_1 N a106.1 a105
          (fun x155 =>
            let x156 := !x155
            k0 x156)
      else
        k0 false)
theorem impl_BoxOk.ex : ∃ f : ((α : Type) → Nat → Int → ((List (Int × Int × Unit)) × Unit) → (Bool → Option α) → Option α), f = fun α => @impl_BoxOk.b α := ⟨_, rfl⟩
noncomputable def impl_BoxOk {α : Type} : Nat → Int → ((List (Int × Int × Unit)) × Unit) → (Bool → Option α) → Option α := Classical.choose impl_BoxOk.ex α
theorem impl_BoxOk.eq : @impl_BoxOk = @impl_BoxOk.b := funext fun α => congrFun (Classical.choose_spec impl_BoxOk.ex) α

/-- loop.example/pinfold/impl.BitGap -/
noncomputable def impl_BitGap.b {α : Type} (N : Nat) (a167 : Int) (a168 : Int) (k0 : Int → Option α) : Option α :=
  let x169 := decide (a168 < a167)
  bif x169 then
    k0 (0 : Int)
  else
    let x170 := IntKind.u64.wrap a168
    let x171 := IntKind.u64.wrap a167
    let x172 := IntKind.u64.wrap (x170 - x171)
    k0 x172
theorem impl_BitGap.ex : ∃ f : ((α : Type) → Nat → Int → Int → (Int → Option α) → Option α), f = fun α => @impl_BitGap.b α := ⟨_, rfl⟩
noncomputable def impl_BitGap {α : Type} : Nat → Int → Int → (Int → Option α) → Option α := Classical.choose impl_BitGap.ex α
theorem impl_BitGap.eq : @impl_BitGap = @impl_BitGap.b := funext fun α => congrFun (Classical.choose_spec impl_BitGap.ex) α

/-- (loop.example/pinfold/impl.Pair).steps -/
noncomputable def impl_Pair_steps.b {α : Type} (N : Nat) (a166 : Int × Int × Unit) (k0 : Int → Option α) : Option α :=
  impl_BitGap N a166.1 a166.2.1
    (fun x173 =>
      k0 x173)
theorem impl_Pair_steps.ex : ∃ f : ((α : Type) → Nat → (Int × Int × Unit) → (Int → Option α) → Option α), f = fun α => @impl_Pair_steps.b α := ⟨_, rfl⟩
noncomputable def impl_Pair_steps {α : Type} : Nat → (Int × Int × Unit) → (Int → Option α) → Option α := Classical.choose impl_Pair_steps.ex α
theorem impl_Pair_steps.eq : @impl_Pair_steps = @impl_Pair_steps.b := funext fun α => congrFun (Classical.choose_spec impl_Pair_steps.ex) α

noncomputable def impl_BoxUnits_J8.b {α : Type} (N : Nat) (v175 : Int) (v176 : Int) (v177 : List (Int × Int × Unit)) (v178 : Int) (v179 : Int) (k0 : Int → List (Int × Int × Unit) → Int → Int → Option α) : Option α :=
  let x180 := (decide ((0 : Int) < v176))
  bif x180 then
    let x181 := (minI v176 (1000000000 : Int))
    let x182 := IntKind.i64.wrap x181
    let x183 := (IntKind.i64.wrap ((4 : Int) * x182))
    let x184 := (IntKind.i64.wrap (x183 - (1 : Int)))
    let x185 := IntKind.i64.wrap (v175 * x184)
    let x186 := (minI (1000000000 : Int) x185)
    k0 x186 v177 v178 v179
  else
    k0 v175 v177 v178 v179
theorem impl_BoxUnits_J8.ex : ∃ f : ((α : Type) → Nat → Int → Int → List (Int × Int × Unit) → Int → Int → (Int → List (Int × Int × Unit) → Int → Int → Option α) → Option α), f = fun α => @impl_BoxUnits_J8.b α := ⟨_, rfl⟩
noncomputable def impl_BoxUnits_J8 {α : Type} : Nat → Int → Int → List (Int × Int × Unit) → Int → Int → (Int → List (Int × Int × Unit) → Int → Int → Option α) → Option α := Classical.choose impl_BoxUnits_J8.ex α
theorem impl_BoxUnits_J8.eq : @impl_BoxUnits_J8 = @impl_BoxUnits_J8.b := funext fun α => congrFun (Classical.choose_spec impl_BoxUnits_J8.ex) α
noncomputable def impl_BoxUnits_L0r {α : Type} (N : Nat) (next : Int → List (Int × Int × Unit) → Int → Int → Option α) (k0 : Int → Option α) (v160 : Int) (v161 : List (Int × Int × Unit)) (v162 : Int) (v163 : Int) : Option α :=
  let x164 := decide (v163 < v162)
  bif x164 then
    bif (decide (v163 < (0 : Int))) then
      none
    else
      match v161[v163.toNat]? with
      | some x165 =>
        impl_Pair_steps N x165
          (fun x174 =>
            impl_BoxUnits_J8 N v160 x174 v161 v162 v163
              (fun x187 x188 x189 x190 =>
                let x191 := (IntKind.i64.wrap (x190 + (1 : Int)))
                next x187 x188 x189 x191))
      | none => none
  else
    k0 v160
noncomputable def impl_BoxUnits_L0.b {α : Type} (N n : Nat) (v160 : Int) (v161 : List (Int × Int × Unit)) (v162 : Int) (v163 : Int) (k0 : Int → Option α) : Option α :=
  Nat.rec (motive := fun _ => Int → List (Int × Int × Unit) → Int → Int → Option α) (fun _ _ _ _ => none) (fun _ next => impl_BoxUnits_L0r N next k0) n v160 v161 v162 v163
theorem impl_BoxUnits_L0.ex : ∃ f : ((α : Type) → Nat → Nat → Int → List (Int × Int × Unit) → Int → Int → (Int → Option α) → Option α), f = fun α => @impl_BoxUnits_L0.b α := ⟨_, rfl⟩
noncomputable def impl_BoxUnits_L0 {α : Type} : Nat → Nat → Int → List (Int × Int × Unit) → Int → Int → (Int → Option α) → Option α := Classical.choose impl_BoxUnits_L0.ex α
theorem impl_BoxUnits_L0.eq : @impl_BoxUnits_L0 = @impl_BoxUnits_L0.b := funext fun α => congrFun (Classical.choose_spec impl_BoxUnits_L0.ex) α
theorem impl_BoxUnits_L0.zero {α : Type} (N : Nat) (v160 : Int) (v161 : List (Int × Int × Unit)) (v162 : Int) (v163 : Int) (k0 : Int → Option α) : impl_BoxUnits_L0 N 0 v160 v161 v162 v163 k0 = none := by rw [impl_BoxUnits_L0.eq]; rfl
theorem impl_BoxUnits_L0.succ {α : Type} (N n : Nat) (v160 : Int) (v161 : List (Int × Int × Unit)) (v162 : Int) (v163 : Int) (k0 : Int → Option α) : impl_BoxUnits_L0 N (n + 1) v160 v161 v162 v163 k0 = impl_BoxUnits_L0r N (fun y0 y1 y2 y3 => impl_BoxUnits_L0 N n y0 y1 y2 y3 k0) k0 v160 v161 v162 v163 := by rw [impl_BoxUnits_L0.eq]; rfl
/-- loop.example/pinfold/impl.BoxUnits -/
noncomputable def impl_BoxUnits.b {α : Type} (N : Nat) (a103 : Int) (a104 : (List (Int × Int × Unit)) × Unit) (k0 : Int → Option α) : Option α :=
  impl_BoxOk N a103 a104
    (fun x157 =>
      let x158 := !x157
      bif x158 then
        k0 (0 : Int)
      else
        let x159 := ((a104.1.length : Nat) : Int)
        impl_BoxUnits_L0 N N (1 : Int) a104.1 x159 (0 : Int)
          (fun x192 =>
            k0 x192))
theorem impl_BoxUnits.ex : ∃ f : ((α : Type) → Nat → Int → ((List (Int × Int × Unit)) × Unit) → (Int → Option α) → Option α), f = fun α => @impl_BoxUnits.b α := ⟨_, rfl⟩
noncomputable def impl_BoxUnits {α : Type} : Nat → Int → ((List (Int × Int × Unit)) × Unit) → (Int → Option α) → Option α := Classical.choose impl_BoxUnits.ex α
theorem impl_BoxUnits.eq : @impl_BoxUnits = @impl_BoxUnits.b := funext fun α => congrFun (Classical.choose_spec impl_BoxUnits.ex) α

/-- loop.example/pinfold/laws.eqPair -/
noncomputable def laws_eqPair.b {α : Type} (N : Nat) (a210 : Int × Int × Unit) (a211 : Int × Int × Unit) (k0 : Bool → Option α) : Option α :=
  let x212 := !(decide (a210.1 = a211.1))
  bif x212 then
    k0 false
  else
    let x213 := !(decide (a210.2.1 = a211.2.1))
    bif x213 then
      k0 false
    else
      k0 true
theorem laws_eqPair.ex : ∃ f : ((α : Type) → Nat → (Int × Int × Unit) → (Int × Int × Unit) → (Bool → Option α) → Option α), f = fun α => @laws_eqPair.b α := ⟨_, rfl⟩
noncomputable def laws_eqPair {α : Type} : Nat → (Int × Int × Unit) → (Int × Int × Unit) → (Bool → Option α) → Option α := Classical.choose laws_eqPair.ex α
theorem laws_eqPair.eq : @laws_eqPair = @laws_eqPair.b := funext fun α => congrFun (Classical.choose_spec laws_eqPair.ex) α

noncomputable def laws_eqPairS_L0r {α : Type} (N : Nat) (next : List (Int × Int × Unit) → List (Int × Int × Unit) → Int → Option α) (k0 : Bool → Option α) (k1 : Option α) (v203 : List (Int × Int × Unit)) (v204 : List (Int × Int × Unit)) (v205 : Int) : Option α :=
  let x206 := ((v203.length : Nat) : Int)
  let x207 := decide (v205 < x206)
  bif x207 then
    bif (decide (v205 < (0 : Int))) then
      none
    else
      match v203[v205.toNat]? with
      | some x208 =>
        bif (decide (v205 < (0 : Int))) then
          none
        else
          match v204[v205.toNat]? with
          | some x209 =>
            laws_eqPair N x208 x209
              (fun x214 =>
                let x215 := !x214
                bif x215 then
                  k0 false
                else
                  let x216 := (IntKind.i64.wrap (v205 + (1 : Int)))
                  next v203 v204 x216)
          | none => none
      | none => none
  else
    k1
noncomputable def laws_eqPairS_L0.b {α : Type} (N n : Nat) (v203 : List (Int × Int × Unit)) (v204 : List (Int × Int × Unit)) (v205 : Int) (k0 : Bool → Option α) (k1 : Option α) : Option α :=
  Nat.rec (motive := fun _ => List (Int × Int × Unit) → List (Int × Int × Unit) → Int → Option α) (fun _ _ _ => none) (fun _ next => laws_eqPairS_L0r N next k0 k1) n v203 v204 v205
theorem laws_eqPairS_L0.ex : ∃ f : ((α : Type) → Nat → Nat → List (Int × Int × Unit) → List (Int × Int × Unit) → Int → (Bool → Option α) → (Option α) → Option α), f = fun α => @laws_eqPairS_L0.b α := ⟨_, rfl⟩
noncomputable def laws_eqPairS_L0 {α : Type} : Nat → Nat → List (Int × Int × Unit) → List (Int × Int × Unit) → Int → (Bool → Option α) → (Option α) → Option α := Classical.choose laws_eqPairS_L0.ex α
theorem laws_eqPairS_L0.eq : @laws_eqPairS_L0 = @laws_eqPairS_L0.b := funext fun α => congrFun (Classical.choose_spec laws_eqPairS_L0.ex) α
theorem laws_eqPairS_L0.zero {α : Type} (N : Nat) (v203 : List (Int × Int × Unit)) (v204 : List (Int × Int × Unit)) (v205 : Int) (k0 : Bool → Option α) (k1 : Option α) : laws_eqPairS_L0 N 0 v203 v204 v205 k0 k1 = none := by rw [laws_eqPairS_L0.eq]; rfl
theorem laws_eqPairS_L0.succ {α : Type} (N n : Nat) (v203 : List (Int × Int × Unit)) (v204 : List (Int × Int × Unit)) (v205 : Int) (k0 : Bool → Option α) (k1 : Option α) : laws_eqPairS_L0 N (n + 1) v203 v204 v205 k0 k1 = laws_eqPairS_L0r N (fun y0 y1 y2 => laws_eqPairS_L0 N n y0 y1 y2 k0 k1) k0 k1 v203 v204 v205 := by rw [laws_eqPairS_L0.eq]; rfl
/-- loop.example/pinfold/laws.eqPairS -/
noncomputable def laws_eqPairS.b {α : Type} (N : Nat) (a198 : List (Int × Int × Unit)) (a199 : List (Int × Int × Unit)) (k0 : Bool → Option α) : Option α :=
  let x200 := ((a198.length : Nat) : Int)
  let x201 := ((a199.length : Nat) : Int)
  let x202 := !(decide (x200 = x201))
  bif x202 then
    k0 false
  else
    laws_eqPairS_L0 N N a198 a199 (0 : Int)
      (fun x217 =>
        k0 x217)
      (
        k0 true)
theorem laws_eqPairS.ex : ∃ f : ((α : Type) → Nat → List (Int × Int × Unit) → List (Int × Int × Unit) → (Bool → Option α) → Option α), f = fun α => @laws_eqPairS.b α := ⟨_, rfl⟩
noncomputable def laws_eqPairS {α : Type} : Nat → List (Int × Int × Unit) → List (Int × Int × Unit) → (Bool → Option α) → Option α := Classical.choose laws_eqPairS.ex α
theorem laws_eqPairS.eq : @laws_eqPairS = @laws_eqPairS.b := funext fun α => congrFun (Classical.choose_spec laws_eqPairS.ex) α

/-- loop.example/pinfold/laws.eqBox -/
noncomputable def laws_eqBox.b {α : Type} (N : Nat) (a196 : (List (Int × Int × Unit)) × Unit) (a197 : (List (Int × Int × Unit)) × Unit) (k0 : Bool → Option α) : Option α :=
  laws_eqPairS N a196.1 a197.1
    (fun x218 =>
      let x219 := !x218
      bif x219 then
        k0 false
      else
        k0 true)
theorem laws_eqBox.ex : ∃ f : ((α : Type) → Nat → ((List (Int × Int × Unit)) × Unit) → ((List (Int × Int × Unit)) × Unit) → (Bool → Option α) → Option α), f = fun α => @laws_eqBox.b α := ⟨_, rfl⟩
noncomputable def laws_eqBox {α : Type} : Nat → ((List (Int × Int × Unit)) × Unit) → ((List (Int × Int × Unit)) × Unit) → (Bool → Option α) → Option α := Classical.choose laws_eqBox.ex α
theorem laws_eqBox.eq : @laws_eqBox = @laws_eqBox.b := funext fun α => congrFun (Classical.choose_spec laws_eqBox.ex) α

/-- loop.example/pinfold/laws.FnExactBoxUnits -/
noncomputable def laws_FnExactBoxUnits.b {α : Type} (N : Nat) (a1 : Int) (a2 : (List (Int × Int × Unit)) × Unit) (k0 : Bool → Option α) : Option α :=
  laws_szBox N a2 (1048576 : Int)
    (fun x12 =>
      let x13 := (decide (x12 < (0 : Int)))
      bif x13 then
        k0 true
      else
        laws_toBox N a2
          (fun x31 =>
            spec_BoxUnits N a1 (x31, ())
              (fun x101 =>
                laws_toBox N a2
                  (fun x102 =>
                    impl_BoxUnits N a1 (x102, ())
                      (fun x193 =>
                        let x194 := !(decide (x193 = x101))
                        bif x194 then
                          k0 false
                        else
                          laws_toBox N a2
                            (fun x195 =>
                              laws_eqBox N (x102, ()) (x195, ())
                                (fun x220 =>
                                  let x221 := !x220
                                  bif x221 then
                                    k0 false
                                  else
                                    k0 true)))))))
theorem laws_FnExactBoxUnits.ex : ∃ f : ((α : Type) → Nat → Int → ((List (Int × Int × Unit)) × Unit) → (Bool → Option α) → Option α), f = fun α => @laws_FnExactBoxUnits.b α := ⟨_, rfl⟩
noncomputable def laws_FnExactBoxUnits {α : Type} : Nat → Int → ((List (Int × Int × Unit)) × Unit) → (Bool → Option α) → Option α := Classical.choose laws_FnExactBoxUnits.ex α
theorem laws_FnExactBoxUnits.eq : @laws_FnExactBoxUnits = @laws_FnExactBoxUnits.b := funext fun α => congrFun (Classical.choose_spec laws_FnExactBoxUnits.ex) α

end
end Go.Proofs.YtaelbfbplamahaaAm
