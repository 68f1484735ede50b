/-
  The functions that the program computes, as the abstract machine tells them. Printed by amp.py.
-/
import Derived.Test.YtaelbfbplamahaaAmb
namespace Go.Proofs.YtaelbfbplamahaaAm
open Go
noncomputable section
set_option linter.unusedVariables false
set_option linter.unusedSimpArgs false

/-- loop.example/pinfold/laws.szPairS -/
noncomputable def laws_szPairS.b {α : Type} (N : Nat) (a5 : List (Int × Int × Unit)) (a6 : Int) (k0 : Int → Option α) : Option α :=
  let x7 := ((a5.length : Nat) : Int)
  let x8 := IntKind.i64.wrap (a6 - x7)
  let x9 := (decide (x8 < (0 : Int)))
  bif x9 then
    k0 (-1 : Int)
  else
    k0 x8
theorem laws_szPairS.ex : ∃ f : ((α : Type) → Nat → List (Int × Int × Unit) → Int → (Int → Option α) → Option α), f = fun α => @laws_szPairS.b α := ⟨_, rfl⟩
noncomputable def laws_szPairS {α : Type} : Nat → List (Int × Int × Unit) → Int → (Int → Option α) → Option α := Classical.choose laws_szPairS.ex α
theorem laws_szPairS.eq : @laws_szPairS = @laws_szPairS.b := funext fun α => congrFun (Classical.choose_spec laws_szPairS.ex) α

/-- loop.example/pinfold/laws.szBox -/
noncomputable def laws_szBox.b {α : Type} (N : Nat) (a3 : (List (Int × Int × Unit)) × Unit) (a4 : Int) (k0 : Int → Option α) : Option α :=
  laws_szPairS N a3.1 a4
    (fun x10 =>
      let x11 := (decide (x10 < (0 : Int)))
      bif x11 then
        k0 (-1 : Int)
      else
        k0 x10)
theorem laws_szBox.ex : ∃ f : ((α : Type) → Nat → ((List (Int × Int × Unit)) × Unit) → Int → (Int → Option α) → Option α), f = fun α => @laws_szBox.b α := ⟨_, rfl⟩
noncomputable def laws_szBox {α : Type} : Nat → ((List (Int × Int × Unit)) × Unit) → Int → (Int → Option α) → Option α := Classical.choose laws_szBox.ex α
theorem laws_szBox.eq : @laws_szBox = @laws_szBox.b := funext fun α => congrFun (Classical.choose_spec laws_szBox.ex) α

/-- loop.example/pinfold/laws.toPair -/
noncomputable def laws_toPair.b {α : Type} (N : Nat) (a24 : Int × Int × Unit) (k0 : (Int × Int × Unit) → Option α) : Option α :=
  k0 (a24.1, (a24.2.1, ()))
theorem laws_toPair.ex : ∃ f : ((α : Type) → Nat → (Int × Int × Unit) → ((Int × Int × Unit) → Option α) → Option α), f = fun α => @laws_toPair.b α := ⟨_, rfl⟩
noncomputable def laws_toPair {α : Type} : Nat → (Int × Int × Unit) → ((Int × Int × Unit) → Option α) → Option α := Classical.choose laws_toPair.ex α
theorem laws_toPair.eq : @laws_toPair = @laws_toPair.b := funext fun α => congrFun (Classical.choose_spec laws_toPair.ex) α

noncomputable def laws_toPairS_L0r {α : Type} (N : Nat) (next : List (Int × Int × Unit) → Int → List (Int × Int × Unit) → Option α) (k0 : List (Int × Int × Unit) → Option α) (v18 : List (Int × Int × Unit)) (v19 : Int) (v20 : List (Int × Int × Unit)) : Option α :=
  let x21 := ((v18.length : Nat) : Int)
  let x22 := decide (v19 < x21)
  bif x22 then
    bif (decide (v19 < (0 : Int))) then
      none
    else
      match v18[v19.toNat]? with
      | some x23 =>
        laws_toPair N x23
          (fun x25 =>
            bif (decide (v19 < (0 : Int))) then
              none
            else
              bif decide (v19.toNat < v20.length) then
                match v20[v19.toNat]? with
                | some x26 =>
                  let x27 := v20.set v19.toNat x25
                  let x28 := (IntKind.i64.wrap (v19 + (1 : Int)))
                  next v18 x28 x27
                | none => none
              else
                none)
      | none => none
  else
    k0 v20
noncomputable def laws_toPairS_L0.b {α : Type} (N n : Nat) (v18 : List (Int × Int × Unit)) (v19 : Int) (v20 : List (Int × Int × Unit)) (k0 : List (Int × Int × Unit) → Option α) : Option α :=
  Nat.rec (motive := fun _ => List (Int × Int × Unit) → Int → List (Int × Int × Unit) → Option α) (fun _ _ _ => none) (fun _ next => laws_toPairS_L0r N next k0) n v18 v19 v20
theorem laws_toPairS_L0.ex : ∃ f : ((α : Type) → Nat → Nat → List (Int × Int × Unit) → Int → List (Int × Int × Unit) → (List (Int × Int × Unit) → Option α) → Option α), f = fun α => @laws_toPairS_L0.b α := ⟨_, rfl⟩
noncomputable def laws_toPairS_L0 {α : Type} : Nat → Nat → List (Int × Int × Unit) → Int → List (Int × Int × Unit) → (List (Int × Int × Unit) → Option α) → Option α := Classical.choose laws_toPairS_L0.ex α
theorem laws_toPairS_L0.eq : @laws_toPairS_L0 = @laws_toPairS_L0.b := funext fun α => congrFun (Classical.choose_spec laws_toPairS_L0.ex) α
theorem laws_toPairS_L0.zero {α : Type} (N : Nat) (v18 : List (Int × Int × Unit)) (v19 : Int) (v20 : List (Int × Int × Unit)) (k0 : List (Int × Int × Unit) → Option α) : laws_toPairS_L0 N 0 v18 v19 v20 k0 = none := by rw [laws_toPairS_L0.eq]; rfl
theorem laws_toPairS_L0.succ {α : Type} (N n : Nat) (v18 : List (Int × Int × Unit)) (v19 : Int) (v20 : List (Int × Int × Unit)) (k0 : List (Int × Int × Unit) → Option α) : laws_toPairS_L0 N (n + 1) v18 v19 v20 k0 = laws_toPairS_L0r N (fun y0 y1 y2 => laws_toPairS_L0 N n y0 y1 y2 k0) k0 v18 v19 v20 := by rw [laws_toPairS_L0.eq]; rfl
/-- loop.example/pinfold/laws.toPairS -/
noncomputable def laws_toPairS.b {α : Type} (N : Nat) (a15 : List (Int × Int × Unit)) (k0 : List (Int × Int × Unit) → Option α) : Option α :=
  let x16 := ((a15.length : Nat) : Int)
  bif (decide ((0 : Int) ≤ x16)) then
    bif decide (x16 ≤ x16) then
      bif (decide (x16 ≤ ((8796093022208 : Nat) : Int))) then
        let x17 := (List.replicate x16.toNat ((0 : Int), ((0 : Int), ())))
        laws_toPairS_L0 N N a15 (0 : Int) x17
          (fun x29 =>
            k0 x29)
      else
        none
    else
      none
  else
    none
theorem laws_toPairS.ex : ∃ f : ((α : Type) → Nat → List (Int × Int × Unit) → (List (Int × Int × Unit) → Option α) → Option α), f = fun α => @laws_toPairS.b α := ⟨_, rfl⟩
noncomputable def laws_toPairS {α : Type} : Nat → List (Int × Int × Unit) → (List (Int × Int × Unit) → Option α) → Option α := Classical.choose laws_toPairS.ex α
theorem laws_toPairS.eq : @laws_toPairS = @laws_toPairS.b := funext fun α => congrFun (Classical.choose_spec laws_toPairS.ex) α

/-- loop.example/pinfold/laws.toBox -/
noncomputable def laws_toBox.b {α : Type} (N : Nat) (a14 : (List (Int × Int × Unit)) × Unit) (k0 : List (Int × Int × Unit) → Option α) : Option α :=
  laws_toPairS N a14.1
    (fun x30 =>
      k0 x30)
theorem laws_toBox.ex : ∃ f : ((α : Type) → Nat → ((List (Int × Int × Unit)) × Unit) → (List (Int × Int × Unit) → Option α) → Option α), f = fun α => @laws_toBox.b α := ⟨_, rfl⟩
noncomputable def laws_toBox {α : Type} : Nat → ((List (Int × Int × Unit)) × Unit) → (List (Int × Int × Unit) → Option α) → Option α := Classical.choose laws_toBox.ex α
theorem laws_toBox.eq : @laws_toBox = @laws_toBox.b := funext fun α => congrFun (Classical.choose_spec laws_toBox.ex) α

/-- loop.example/pinfold/spec.BitTop -/
noncomputable def spec_BitTop.b {α : Type} (N : Nat) (a48 : Int) (k0 : Int → Option α) : Option α :=
  let x49 := (decide (a48 = (32 : Int)))
  bif x49 then
    k0 (2139095040 : Int)
  else
    let x50 := (decide (a48 = (64 : Int)))
    bif x50 then
      k0 (9218868437227405312 : Int)
    else
      k0 (0 : Int)
theorem spec_BitTop.ex : ∃ f : ((α : Type) → Nat → Int → (Int → Option α) → Option α), f = fun α => @spec_BitTop.b α := ⟨_, rfl⟩
noncomputable def spec_BitTop {α : Type} : Nat → Int → (Int → Option α) → Option α := Classical.choose spec_BitTop.ex α
theorem spec_BitTop.eq : @spec_BitTop = @spec_BitTop.b := funext fun α => congrFun (Classical.choose_spec spec_BitTop.ex) α

/-- loop.example/pinfold/spec.l1Width -/
noncomputable def spec_l1Width.b {α : Type} (N : Nat) (a54 : Int) (k0 : Bool → Option α) : Option α :=
  let x55 := (decide (a54 = (32 : Int)))
  bif x55 then
    k0 true
  else
    let x56 := (decide (a54 = (64 : Int)))
    k0 x56
theorem spec_l1Width.ex : ∃ f : ((α : Type) → Nat → Int → (Bool → Option α) → Option α), f = fun α => @spec_l1Width.b α := ⟨_, rfl⟩
noncomputable def spec_l1Width {α : Type} : Nat → Int → (Bool → Option α) → Option α := Classical.choose spec_l1Width.ex α
theorem spec_l1Width.eq : @spec_l1Width = @spec_l1Width.b := funext fun α => congrFun (Classical.choose_spec spec_l1Width.ex) α

/-- loop.example/pinfold/spec.BitOk -/
noncomputable def spec_BitOk.b {α : Type} (N : Nat) (a52 : Int) (a53 : Int) (k0 : Bool → Option α) : Option α :=
  spec_l1Width N a52
    (fun x57 =>
      bif x57 then
        spec_BitTop N a52
          (fun x58 =>
            let x59 := IntKind.i64.wrap (0 - x58)
            let x60 := decide (x59 ≤ a53)
            bif x60 then
              spec_BitTop N a52
                (fun x61 =>
                  let x62 := decide (a53 ≤ x61)
                  k0 x62)
            else
              k0 false)
      else
        k0 false)
theorem spec_BitOk.ex : ∃ f : ((α : Type) → Nat → Int → Int → (Bool → Option α) → Option α), f = fun α => @spec_BitOk.b α := ⟨_, rfl⟩
noncomputable def spec_BitOk {α : Type} : Nat → Int → Int → (Bool → Option α) → Option α := Classical.choose spec_BitOk.ex α
theorem spec_BitOk.eq : @spec_BitOk = @spec_BitOk.b := funext fun α => congrFun (Classical.choose_spec spec_BitOk.ex) α

/-- loop.example/pinfold/spec.PairOk -/
noncomputable def spec_PairOk.b {α : Type} (N : Nat) (a46 : Int) (a47 : Int × Int × Unit) (k0 : Bool → Option α) : Option α :=
  spec_BitTop N a46
    (fun x51 =>
      spec_BitOk N a46 a47.1
        (fun x63 =>
          bif x63 then
            spec_BitOk N a46 a47.2.1
              (fun x64 =>
                bif x64 then
                  let x65 := decide (a47.1 ≤ a47.2.1)
                  bif x65 then
                    let x66 := decide (a47.1 < x51)
                    bif x66 then
                      let x67 := IntKind.i64.wrap (0 - x51)
                      let x68 := decide (x67 < a47.2.1)
                      k0 x68
                    else
                      k0 false
                  else
                    k0 false
                else
                  k0 false)
          else
            k0 false))
theorem spec_PairOk.ex : ∃ f : ((α : Type) → Nat → Int → (Int × Int × Unit) → (Bool → Option α) → Option α), f = fun α => @spec_PairOk.b α := ⟨_, rfl⟩
noncomputable def spec_PairOk {α : Type} : Nat → Int → (Int × Int × Unit) → (Bool → Option α) → Option α := Classical.choose spec_PairOk.ex α
theorem spec_PairOk.eq : @spec_PairOk = @spec_PairOk.b := funext fun α => congrFun (Classical.choose_spec spec_PairOk.ex) α

noncomputable def spec_BoxOk_L0r {α : Type} (N : Nat) (next : Int → Int → ((List (Int × Int × Unit)) × Unit) → Option α) (k0 : Bool → Option α) (k1 : Option α) (v40 : Int) (v41 : Int) (v42 : (List (Int × Int × Unit)) × Unit) : Option α :=
  let x43 := ((v42.1.length : Nat) : Int)
  let x44 := decide (v41 < x43)
  bif x44 then
    bif (decide (v41 < (0 : Int))) then
      none
    else
      match v42.1[v41.toNat]? with
      | some x45 =>
        spec_PairOk N v40 x45
          (fun x69 =>
            let x70 := !x69
            bif x70 then
              k0 false
            else
              let x71 := (IntKind.i64.wrap (v41 + (1 : Int)))
              next v40 x71 v42)
      | none => none
  else
    k1
noncomputable def spec_BoxOk_L0.b {α : Type} (N n : Nat) (v40 : Int) (v41 : Int) (v42 : (List (Int × Int × Unit)) × Unit) (k0 : Bool → Option α) (k1 : Option α) : Option α :=
  Nat.rec (motive := fun _ => Int → Int → ((List (Int × Int × Unit)) × Unit) → Option α) (fun _ _ _ => none) (fun _ next => spec_BoxOk_L0r N next k0 k1) n v40 v41 v42
theorem spec_BoxOk_L0.ex : ∃ f : ((α : Type) → Nat → Nat → Int → Int → ((List (Int × Int × Unit)) × Unit) → (Bool → Option α) → (Option α) → Option α), f = fun α => @spec_BoxOk_L0.b α := ⟨_, rfl⟩
noncomputable def spec_BoxOk_L0 {α : Type} : Nat → Nat → Int → Int → ((List (Int × Int × Unit)) × Unit) → (Bool → Option α) → (Option α) → Option α := Classical.choose spec_BoxOk_L0.ex α
theorem spec_BoxOk_L0.eq : @spec_BoxOk_L0 = @spec_BoxOk_L0.b := funext fun α => congrFun (Classical.choose_spec spec_BoxOk_L0.ex) α
theorem spec_BoxOk_L0.zero {α : Type} (N : Nat) (v40 : Int) (v41 : Int) (v42 : (List (Int × Int × Unit)) × Unit) (k0 : Bool → Option α) (k1 : Option α) : spec_BoxOk_L0 N 0 v40 v41 v42 k0 k1 = none := by rw [spec_BoxOk_L0.eq]; rfl
theorem spec_BoxOk_L0.succ {α : Type} (N n : Nat) (v40 : Int) (v41 : Int) (v42 : (List (Int × Int × Unit)) × Unit) (k0 : Bool → Option α) (k1 : Option α) : spec_BoxOk_L0 N (n + 1) v40 v41 v42 k0 k1 = spec_BoxOk_L0r N (fun y0 y1 y2 => spec_BoxOk_L0 N n y0 y1 y2 k0 k1) k0 k1 v40 v41 v42 := by rw [spec_BoxOk_L0.eq]; rfl
/-- loop.example/pinfold/spec.BoxOk -/
noncomputable def spec_BoxOk.b {α : Type} (N : Nat) (a34 : Int) (a35 : (List (Int × Int × Unit)) × Unit) (k0 : Bool → Option α) : Option α :=
  let x36 := ((a35.1.length : Nat) : Int)
  let x37 := (decide (x36 < (1 : Int)))
  bif x37 then
    k0 false
  else
    let x38 := ((a35.1.length : Nat) : Int)
    let x39 := (decide ((6 : Int) < x38))
    bif x39 then
      k0 false
    else
      spec_BoxOk_L0 N N a34 (0 : Int) a35
        (fun x72 =>
          k0 x72)
        (
          k0 true)
theorem spec_BoxOk.ex : ∃ f : ((α : Type) → Nat → Int → ((List (Int × Int × Unit)) × Unit) → (Bool → Option α) → Option α), f = fun α => @spec_BoxOk.b α := ⟨_, rfl⟩
noncomputable def spec_BoxOk {α : Type} : Nat → Int → ((List (Int × Int × Unit)) × Unit) → (Bool → Option α) → Option α := Classical.choose spec_BoxOk.ex α
theorem spec_BoxOk.eq : @spec_BoxOk = @spec_BoxOk.b := funext fun α => congrFun (Classical.choose_spec spec_BoxOk.ex) α

/-- loop.example/pinfold/spec.BitGap -/
noncomputable def spec_BitGap.b {α : Type} (N : Nat) (a82 : Int) (a83 : Int) (k0 : Int → Option α) : Option α :=
  let x84 := decide (a83 < a82)
  bif x84 then
    k0 (0 : Int)
  else
    let x85 := IntKind.u64.wrap a83
    let x86 := IntKind.u64.wrap a82
    let x87 := IntKind.u64.wrap (x85 - x86)
    k0 x87
theorem spec_BitGap.ex : ∃ f : ((α : Type) → Nat → Int → Int → (Int → Option α) → Option α), f = fun α => @spec_BitGap.b α := ⟨_, rfl⟩
noncomputable def spec_BitGap {α : Type} : Nat → Int → Int → (Int → Option α) → Option α := Classical.choose spec_BitGap.ex α
theorem spec_BitGap.eq : @spec_BitGap = @spec_BitGap.b := funext fun α => congrFun (Classical.choose_spec spec_BitGap.ex) α

/-- loop.example/pinfold/spec.l3Gap -/
noncomputable def spec_l3Gap.b {α : Type} (N : Nat) (a81 : Int × Int × Unit) (k0 : Int → Option α) : Option α :=
  spec_BitGap N a81.1 a81.2.1
    (fun x88 =>
      k0 x88)
theorem spec_l3Gap.ex : ∃ f : ((α : Type) → Nat → (Int × Int × Unit) → (Int → Option α) → Option α), f = fun α => @spec_l3Gap.b α := ⟨_, rfl⟩
noncomputable def spec_l3Gap {α : Type} : Nat → (Int × Int × Unit) → (Int → Option α) → Option α := Classical.choose spec_l3Gap.ex α
theorem spec_l3Gap.eq : @spec_l3Gap = @spec_l3Gap.b := funext fun α => congrFun (Classical.choose_spec spec_l3Gap.ex) α

noncomputable def spec_l4Halvings_L0r {α : Type} (N : Nat) (next : Int → Int → Option α) (k0 : Int → Option α) (v91 : Int) (v92 : Int) : Option α :=
  let x93 := (decide ((0 : Int) < v91))
  bif x93 then
    let x94 := (IntKind.u64.wrap (Int.tdiv v91 (2 : Int)))
    let x95 := (IntKind.i64.wrap (v92 + (1 : Int)))
    next x94 x95
  else
    k0 v92
noncomputable def spec_l4Halvings_L0.b {α : Type} (N n : Nat) (v91 : Int) (v92 : Int) (k0 : Int → Option α) : Option α :=
  Nat.rec (motive := fun _ => Int → Int → Option α) (fun _ _ => none) (fun _ next => spec_l4Halvings_L0r N next k0) n v91 v92
theorem spec_l4Halvings_L0.ex : ∃ f : ((α : Type) → Nat → Nat → Int → Int → (Int → Option α) → Option α), f = fun α => @spec_l4Halvings_L0.b α := ⟨_, rfl⟩
noncomputable def spec_l4Halvings_L0 {α : Type} : Nat → Nat → Int → Int → (Int → Option α) → Option α := Classical.choose spec_l4Halvings_L0.ex α
theorem spec_l4Halvings_L0.eq : @spec_l4Halvings_L0 = @spec_l4Halvings_L0.b := funext fun α => congrFun (Classical.choose_spec spec_l4Halvings_L0.ex) α
theorem spec_l4Halvings_L0.zero {α : Type} (N : Nat) (v91 : Int) (v92 : Int) (k0 : Int → Option α) : spec_l4Halvings_L0 N 0 v91 v92 k0 = none := by rw [spec_l4Halvings_L0.eq]; rfl
theorem spec_l4Halvings_L0.succ {α : Type} (N n : Nat) (v91 : Int) (v92 : Int) (k0 : Int → Option α) : spec_l4Halvings_L0 N (n + 1) v91 v92 k0 = spec_l4Halvings_L0r N (fun y0 y1 => spec_l4Halvings_L0 N n y0 y1 k0) k0 v91 v92 := by rw [spec_l4Halvings_L0.eq]; rfl
/-- loop.example/pinfold/spec.l4Halvings -/
noncomputable def spec_l4Halvings.b {α : Type} (N : Nat) (a90 : Int) (k0 : Int → Option α) : Option α :=
  spec_l4Halvings_L0 N N a90 (0 : Int)
    (fun x96 =>
      k0 x96)
theorem spec_l4Halvings.ex : ∃ f : ((α : Type) → Nat → Int → (Int → Option α) → Option α), f = fun α => @spec_l4Halvings.b α := ⟨_, rfl⟩
noncomputable def spec_l4Halvings {α : Type} : Nat → Int → (Int → Option α) → Option α := Classical.choose spec_l4Halvings.ex α
theorem spec_l4Halvings.eq : @spec_l4Halvings = @spec_l4Halvings.b := funext fun α => congrFun (Classical.choose_spec spec_l4Halvings.ex) α

noncomputable def spec_BoxPath_L0r {α : Type} (N : Nat) (next : Int → Int → ((List (Int × Int × Unit)) × Unit) → Option α) (k0 : Int → Option α) (v75 : Int) (v76 : Int) (v77 : (List (Int × Int × Unit)) × Unit) : Option α :=
  let x78 := ((v77.1.length : Nat) : Int)
  let x79 := decide (v76 < x78)
  bif x79 then
    bif (decide (v76 < (0 : Int))) then
      none
    else
      match v77.1[v76.toNat]? with
      | some x80 =>
        spec_l3Gap N x80
          (fun x89 =>
            spec_l4Halvings N x89
              (fun x97 =>
                let x98 := IntKind.i64.wrap (v75 + x97)
                let x99 := (IntKind.i64.wrap (v76 + (1 : Int)))
                next x98 x99 v77))
      | none => none
  else
    k0 v75
noncomputable def spec_BoxPath_L0.b {α : Type} (N n : Nat) (v75 : Int) (v76 : Int) (v77 : (List (Int × Int × Unit)) × Unit) (k0 : Int → Option α) : Option α :=
  Nat.rec (motive := fun _ => Int → Int → ((List (Int × Int × Unit)) × Unit) → Option α) (fun _ _ _ => none) (fun _ next => spec_BoxPath_L0r N next k0) n v75 v76 v77
theorem spec_BoxPath_L0.ex : ∃ f : ((α : Type) → Nat → Nat → Int → Int → ((List (Int × Int × Unit)) × Unit) → (Int → Option α) → Option α), f = fun α => @spec_BoxPath_L0.b α := ⟨_, rfl⟩
noncomputable def spec_BoxPath_L0 {α : Type} : Nat → Nat → Int → Int → ((List (Int × Int × Unit)) × Unit) → (Int → Option α) → Option α := Classical.choose spec_BoxPath_L0.ex α
theorem spec_BoxPath_L0.eq : @spec_BoxPath_L0 = @spec_BoxPath_L0.b := funext fun α => congrFun (Classical.choose_spec spec_BoxPath_L0.ex) α
theorem spec_BoxPath_L0.zero {α : Type} (N : Nat) (v75 : Int) (v76 : Int) (v77 : (List (Int × Int × Unit)) × Unit) (k0 : Int → Option α) : spec_BoxPath_L0 N 0 v75 v76 v77 k0 = none := by rw [spec_BoxPath_L0.eq]; rfl
theorem spec_BoxPath_L0.succ {α : Type} (N n : Nat) (v75 : Int) (v76 : Int) (v77 : (List (Int × Int × Unit)) × Unit) (k0 : Int → Option α) : spec_BoxPath_L0 N (n + 1) v75 v76 v77 k0 = spec_BoxPath_L0r N (fun y0 y1 y2 => spec_BoxPath_L0 N n y0 y1 y2 k0) k0 v75 v76 v77 := by rw [spec_BoxPath_L0.eq]; rfl
/-- loop.example/pinfold/spec.BoxPath -/
noncomputable def spec_BoxPath.b {α : Type} (N : Nat) (a32 : Int) (a33 : (List (Int × Int × Unit)) × Unit) (k0 : Int → Option α) : Option α :=
  spec_BoxOk N a32 a33
    (fun x73 =>
      let x74 := !x73
      bif x74 then
        k0 (0 : Int)
      else
        spec_BoxPath_L0 N N (1 : Int) (0 : Int) a33
          (fun x100 =>
            k0 x100))
theorem spec_BoxPath.ex : ∃ f : ((α : Type) → Nat → Int → ((List (Int × Int × Unit)) × Unit) → (Int → Option α) → Option α), f = fun α => @spec_BoxPath.b α := ⟨_, rfl⟩
noncomputable def spec_BoxPath {α : Type} : Nat → Int → ((List (Int × Int × Unit)) × Unit) → (Int → Option α) → Option α := Classical.choose spec_BoxPath.ex α
theorem spec_BoxPath.eq : @spec_BoxPath = @spec_BoxPath.b := funext fun α => congrFun (Classical.choose_spec spec_BoxPath.ex) α

/-- loop.example/pinfold/impl.in -/
noncomputable def impl_in.b {α : Type} (N : Nat) (a108 : Int) (a109 : Int) (a110 : Int) (k0 : Bool → Option α) : Option α :=
  let x111 := decide (a109 ≤ a108)
  bif x111 then
    let x112 := decide (a108 ≤ a110)
    k0 x112
  else
    k0 false
theorem impl_in.ex : ∃ f : ((α : Type) → Nat → Int → Int → Int → (Bool → Option α) → Option α), f = fun α => @impl_in.b α := ⟨_, rfl⟩
noncomputable def impl_in {α : Type} : Nat → Int → Int → Int → (Bool → Option α) → Option α := Classical.choose impl_in.ex α
theorem impl_in.eq : @impl_in = @impl_in.b := funext fun α => congrFun (Classical.choose_spec impl_in.ex) α

/-- loop.example/pinfold/impl.formatOf -/
noncomputable def impl_formatOf.b {α : Type} (N : Nat) (a130 : Int) (k0 : (Int × Int × Int × Int × Unit) → Bool → Option α) : Option α :=
  let x131 := (decide (a130 = (32 : Int)))
  bif x131 then
    k0 ((23 : Int), ((-149 : Int), ((127 : Int), ((2139095040 : Int), ())))) true
  else
    let x132 := (decide (a130 = (64 : Int)))
    bif x132 then
      k0 ((52 : Int), ((-1074 : Int), ((1023 : Int), ((9218868437227405312 : Int), ())))) true
    else
      k0 ((0 : Int), ((0 : Int), ((0 : Int), ((0 : Int), ())))) false
theorem impl_formatOf.ex : ∃ f : ((α : Type) → Nat → Int → ((Int × Int × Int × Int × Unit) → Bool → Option α) → Option α), f = fun α => @impl_formatOf.b α := ⟨_, rfl⟩
noncomputable def impl_formatOf {α : Type} : Nat → Int → ((Int × Int × Int × Int × Unit) → Bool → Option α) → Option α := Classical.choose impl_formatOf.ex α
theorem impl_formatOf.eq : @impl_formatOf = @impl_formatOf.b := funext fun α => congrFun (Classical.choose_spec impl_formatOf.ex) α

/-- loop.example/pinfold/impl.BitTop -/
noncomputable def impl_BitTop.b {α : Type} (N : Nat) (a129 : Int) (k0 : Int → Option α) : Option α :=
  impl_formatOf N a129
    (fun x133 _ =>
      k0 x133.2.2.2.1)
theorem impl_BitTop.ex : ∃ f : ((α : Type) → Nat → Int → (Int → Option α) → Option α), f = fun α => @impl_BitTop.b α := ⟨_, rfl⟩
noncomputable def impl_BitTop {α : Type} : Nat → Int → (Int → Option α) → Option α := Classical.choose impl_BitTop.ex α
theorem impl_BitTop.eq : @impl_BitTop = @impl_BitTop.b := funext fun α => congrFun (Classical.choose_spec impl_BitTop.ex) α

/-- loop.example/pinfold/impl.BitOk -/
noncomputable def impl_BitOk.b {α : Type} (N : Nat) (a136 : Int) (a137 : Int) (k0 : Bool → Option α) : Option α :=
  impl_formatOf N a136
    (fun x138 x139 =>
      bif x139 then
        let x140 := IntKind.i64.wrap (0 - x138.2.2.2.1)
        impl_in N a137 x140 x138.2.2.2.1
          (fun x141 =>
            k0 x141)
      else
        k0 false)
theorem impl_BitOk.ex : ∃ f : ((α : Type) → Nat → Int → Int → (Bool → Option α) → Option α), f = fun α => @impl_BitOk.b α := ⟨_, rfl⟩
noncomputable def impl_BitOk {α : Type} : Nat → Int → Int → (Bool → Option α) → Option α := Classical.choose impl_BitOk.ex α
theorem impl_BitOk.eq : @impl_BitOk = @impl_BitOk.b := funext fun α => congrFun (Classical.choose_spec impl_BitOk.ex) α

/-- loop.example/pinfold/impl.PairOk -/
noncomputable def impl_PairOk.b {α : Type} (N : Nat) (a127 : Int) (a128 : Int × Int × Unit) (k0 : Bool → Option α) : Option α :=
  impl_BitTop N a127
    (fun x135 =>
      impl_BitOk N a127 a128.1
        (fun x142 =>
          bif x142 then
            impl_BitOk N a127 a128.2.1
              (fun x143 =>
                bif x143 then
                  let x144 := decide (a128.1 ≤ a128.2.1)
                  bif x144 then
                    let x145 := !(decide (a128.1 = x135))
                    bif x145 then
                      let x146 := IntKind.i64.wrap (0 - x135)
                      let x147 := !(decide (a128.2.1 = x146))
                      k0 x147
                    else
                      k0 false
                  else
                    k0 false
                else
                  k0 false)
          else
            k0 false))
theorem impl_PairOk.ex : ∃ f : ((α : Type) → Nat → Int → (Int × Int × Unit) → (Bool → Option α) → Option α), f = fun α => @impl_PairOk.b α := ⟨_, rfl⟩
noncomputable def impl_PairOk {α : Type} : Nat → Int → (Int × Int × Unit) → (Bool → Option α) → Option α := Classical.choose impl_PairOk.ex α
theorem impl_PairOk.eq : @impl_PairOk = @impl_PairOk.b := funext fun α => congrFun (Classical.choose_spec impl_PairOk.ex) α

/-- loop.example/pinfold/impl.BoxOk$1 -/
noncomputable def impl_BoxOk_1.b {α : Type} (N : Nat) (a125 : Int × Int × Unit) (a126 : Int) (k0 : Bool → Option α) : Option α :=
  impl_PairOk N a126 a125
    (fun x148 =>
      let x149 := !x148
      k0 x149)
theorem impl_BoxOk_1.ex : ∃ f : ((α : Type) → Nat → (Int × Int × Unit) → Int → (Bool → Option α) → Option α), f = fun α => @impl_BoxOk_1.b α := ⟨_, rfl⟩
noncomputable def impl_BoxOk_1 {α : Type} : Nat → (Int × Int × Unit) → Int → (Bool → Option α) → Option α := Classical.choose impl_BoxOk_1.ex α
theorem impl_BoxOk_1.eq : @impl_BoxOk_1 = @impl_BoxOk_1.b := funext fun α => congrFun (Classical.choose_spec impl_BoxOk_1.ex) α

noncomputable def slices_IndexFunc_impl_Pair_impl_Pair__impl_BoxOk_1_L0r {α : Type} (N : Nat) (next : List (Int × Int × Unit) → Int → Int → Int → Option α) (k0 : Int → Option α) (k1 : Option α) (v119 : List (Int × Int × Unit)) (v120 : Int) (v121 : Int) (v122 : Int) : Option α :=
  let x123 := decide (v122 < v121)
  bif x123 then
    bif (decide (v122 < (0 : Int))) then
      none
    else
      match v119[v122.toNat]? with
      | some x124 =>
        impl_BoxOk_1 N x124 v120
          (fun x150 =>
            bif x150 then
              k0 v122
            else
              let x151 := (IntKind.i64.wrap (v122 + (1 : Int)))
              next v119 v120 v121 x151)
      | none => none
  else
    k1
noncomputable def slices_IndexFunc_impl_Pair_impl_Pair__impl_BoxOk_1_L0.b {α : Type} (N n : Nat) (v119 : List (Int × Int × Unit)) (v120 : Int) (v121 : Int) (v122 : Int) (k0 : Int → Option α) (k1 : Option α) : Option α :=
  Nat.rec (motive := fun _ => List (Int × Int × Unit) → Int → Int → Int → Option α) (fun _ _ _ _ => none) (fun _ next => slices_IndexFunc_impl_Pair_impl_Pair__impl_BoxOk_1_L0r N next k0 k1) n v119 v120 v121 v122
theorem slices_IndexFunc_impl_Pair_impl_Pair__impl_BoxOk_1_L0.ex : ∃ f : ((α : Type) → Nat → Nat → List (Int × Int × Unit) → Int → Int → Int → (Int → Option α) → (Option α) → Option α), f = fun α => @slices_IndexFunc_impl_Pair_impl_Pair__impl_BoxOk_1_L0.b α := ⟨_, rfl⟩
noncomputable def slices_IndexFunc_impl_Pair_impl_Pair__impl_BoxOk_1_L0 {α : Type} : Nat → Nat → List (Int × Int × Unit) → Int → Int → Int → (Int → Option α) → (Option α) → Option α := Classical.choose slices_IndexFunc_impl_Pair_impl_Pair__impl_BoxOk_1_L0.ex α
theorem slices_IndexFunc_impl_Pair_impl_Pair__impl_BoxOk_1_L0.eq : @slices_IndexFunc_impl_Pair_impl_Pair__impl_BoxOk_1_L0 = @slices_IndexFunc_impl_Pair_impl_Pair__impl_BoxOk_1_L0.b := funext fun α => congrFun (Classical.choose_spec slices_IndexFunc_impl_Pair_impl_Pair__impl_BoxOk_1_L0.ex) α
theorem slices_IndexFunc_impl_Pair_impl_Pair__impl_BoxOk_1_L0.zero {α : Type} (N : Nat) (v119 : List (Int × Int × Unit)) (v120 : Int) (v121 : Int) (v122 : Int) (k0 : Int → Option α) (k1 : Option α) : slices_IndexFunc_impl_Pair_impl_Pair__impl_BoxOk_1_L0 N 0 v119 v120 v121 v122 k0 k1 = none := by rw [slices_IndexFunc_impl_Pair_impl_Pair__impl_BoxOk_1_L0.eq]; rfl
theorem slices_IndexFunc_impl_Pair_impl_Pair__impl_BoxOk_1_L0.succ {α : Type} (N n : Nat) (v119 : List (Int × Int × Unit)) (v120 : Int) (v121 : Int) (v122 : Int) (k0 : Int → Option α) (k1 : Option α) : slices_IndexFunc_impl_Pair_impl_Pair__impl_BoxOk_1_L0 N (n + 1) v119 v120 v121 v122 k0 k1 = slices_IndexFunc_impl_Pair_impl_Pair__impl_BoxOk_1_L0r N (fun y0 y1 y2 y3 => slices_IndexFunc_impl_Pair_impl_Pair__impl_BoxOk_1_L0 N n y0 y1 y2 y3 k0 k1) k0 k1 v119 v120 v121 v122 := by rw [slices_IndexFunc_impl_Pair_impl_Pair__impl_BoxOk_1_L0.eq]; rfl
/-- slices.IndexFunc[[]loop.example/pinfold/impl.Pair,loop.example/pinfold/impl.Pair] -/
noncomputable def slices_IndexFunc_impl_Pair_impl_Pair__impl_BoxOk_1.b {α : Type} (N : Nat) (a116 : List (Int × Int × Unit)) (a117 : Int) (k0 : Int → Option α) : Option α :=
  let x118 := ((a116.length : Nat) : Int)
  slices_IndexFunc_impl_Pair_impl_Pair__impl_BoxOk_1_L0 N N a116 a117 x118 (0 : Int)
    (fun x152 =>
      k0 x152)
    (
      k0 (-1 : Int))
theorem slices_IndexFunc_impl_Pair_impl_Pair__impl_BoxOk_1.ex : ∃ f : ((α : Type) → Nat → List (Int × Int × Unit) → Int → (Int → Option α) → Option α), f = fun α => @slices_IndexFunc_impl_Pair_impl_Pair__impl_BoxOk_1.b α := ⟨_, rfl⟩
noncomputable def slices_IndexFunc_impl_Pair_impl_Pair__impl_BoxOk_1 {α : Type} : Nat → List (Int × Int × Unit) → Int → (Int → Option α) → Option α := Classical.choose slices_IndexFunc_impl_Pair_impl_Pair__impl_BoxOk_1.ex α
theorem slices_IndexFunc_impl_Pair_impl_Pair__impl_BoxOk_1.eq : @slices_IndexFunc_impl_Pair_impl_Pair__impl_BoxOk_1 = @slices_IndexFunc_impl_Pair_impl_Pair__impl_BoxOk_1.b := funext fun α => congrFun (Classical.choose_spec slices_IndexFunc_impl_Pair_impl_Pair__impl_BoxOk_1.ex) α

/-- slices.ContainsFunc[[]loop.example/pinfold/impl.Pair,loop.example/pinfold/impl.Pair] -/
noncomputable def slices_ContainsFunc_impl_Pair_impl_Pair__impl_BoxOk_1.b {α : Type} (N : Nat) (a114 : List (Int × Int × Unit)) (a115 : Int) (k0 : Bool → Option α) : Option α :=
  slices_IndexFunc_impl_Pair_impl_Pair__impl_BoxOk_1 N a114 a115
    (fun x153 =>
      let x154 := (decide ((0 : Int) ≤ x153))
      k0 x154)
theorem slices_ContainsFunc_impl_Pair_impl_Pair__impl_BoxOk_1.ex : ∃ f : ((α : Type) → Nat → List (Int × Int × Unit) → Int → (Bool → Option α) → Option α), f = fun α => @slices_ContainsFunc_impl_Pair_impl_Pair__impl_BoxOk_1.b α := ⟨_, rfl⟩
noncomputable def slices_ContainsFunc_impl_Pair_impl_Pair__impl_BoxOk_1 {α : Type} : Nat → List (Int × Int × Unit) → Int → (Bool → Option α) → Option α := Classical.choose slices_ContainsFunc_impl_Pair_impl_Pair__impl_BoxOk_1.ex α
theorem slices_ContainsFunc_impl_Pair_impl_Pair__impl_BoxOk_1.eq : @slices_ContainsFunc_impl_Pair_impl_Pair__impl_BoxOk_1 = @slices_ContainsFunc_impl_Pair_impl_Pair__impl_BoxOk_1.b := funext fun α => congrFun (Classical.choose_spec slices_ContainsFunc_impl_Pair_impl_Pair__impl_BoxOk_1.ex) α

/-- loop.example/pinfold/impl.BoxOk -/
noncomputable def impl_BoxOk.b {α : Type} (N : Nat) (a105 : Int) (a106 : (List (Int × Int × Unit)) × Unit) (k0 : Bool → Option α) : Option α :=
  let x107 := ((a106.1.length : Nat) : Int)
  impl_in N x107 (1 : Int) (6 : Int)
    (fun x113 =>
      bif x113 then
        slices_ContainsFunc_impl_Pair_impl_Pair__impl_BoxOk_1 N a106.1 a105
          (fun x155 =>
            let x156 := !x155
            k0 x156)
      else
        k0 false)
theorem impl_BoxOk.ex : ∃ f : ((α : Type) → Nat → Int → ((List (Int × Int × Unit)) × Unit) → (Bool → Option α) → Option α), f = fun α => @impl_BoxOk.b α := ⟨_, rfl⟩
noncomputable def impl_BoxOk {α : Type} : Nat → Int → ((List (Int × Int × Unit)) × Unit) → (Bool → Option α) → Option α := Classical.choose impl_BoxOk.ex α
theorem impl_BoxOk.eq : @impl_BoxOk = @impl_BoxOk.b := funext fun α => congrFun (Classical.choose_spec impl_BoxOk.ex) α

/-- loop.example/pinfold/impl.BitGap -/
noncomputable def impl_BitGap.b {α : Type} (N : Nat) (a167 : Int) (a168 : Int) (k0 : Int → Option α) : Option α :=
  let x169 := decide (a168 < a167)
  bif x169 then
    k0 (0 : Int)
  else
    let x170 := IntKind.u64.wrap a168
    let x171 := IntKind.u64.wrap a167
    let x172 := IntKind.u64.wrap (x170 - x171)
    k0 x172
theorem impl_BitGap.ex : ∃ f : ((α : Type) → Nat → Int → Int → (Int → Option α) → Option α), f = fun α => @impl_BitGap.b α := ⟨_, rfl⟩
noncomputable def impl_BitGap {α : Type} : Nat → Int → Int → (Int → Option α) → Option α := Classical.choose impl_BitGap.ex α
theorem impl_BitGap.eq : @impl_BitGap = @impl_BitGap.b := funext fun α => congrFun (Classical.choose_spec impl_BitGap.ex) α

/-- (loop.example/pinfold/impl.Pair).steps -/
noncomputable def impl_Pair_steps.b {α : Type} (N : Nat) (a166 : Int × Int × Unit) (k0 : Int → Option α) : Option α :=
  impl_BitGap N a166.1 a166.2.1
    (fun x173 =>
      k0 x173)
theorem impl_Pair_steps.ex : ∃ f : ((α : Type) → Nat → (Int × Int × Unit) → (Int → Option α) → Option α), f = fun α => @impl_Pair_steps.b α := ⟨_, rfl⟩
noncomputable def impl_Pair_steps {α : Type} : Nat → (Int × Int × Unit) → (Int → Option α) → Option α := Classical.choose impl_Pair_steps.ex α
theorem impl_Pair_steps.eq : @impl_Pair_steps = @impl_Pair_steps.b := funext fun α => congrFun (Classical.choose_spec impl_Pair_steps.ex) α

noncomputable def math_bits_Len64_J1.b {α : Type} (N : Nat) (v176 : Int) (v177 : Int) (k0 : Int → Int → Option α) : Option α :=
  let x178 := (decide ((4294967296 : Int) ≤ v176))
  bif x178 then
    let x179 := (shrI .u64 v176 (32 : Int))
    k0 x179 (32 : Int)
  else
    k0 v176 v177
theorem math_bits_Len64_J1.ex : ∃ f : ((α : Type) → Nat → Int → Int → (Int → Int → Option α) → Option α), f = fun α => @math_bits_Len64_J1.b α := ⟨_, rfl⟩
noncomputable def math_bits_Len64_J1 {α : Type} : Nat → Int → Int → (Int → Int → Option α) → Option α := Classical.choose math_bits_Len64_J1.ex α
theorem math_bits_Len64_J1.eq : @math_bits_Len64_J1 = @math_bits_Len64_J1.b := funext fun α => congrFun (Classical.choose_spec math_bits_Len64_J1.ex) α
noncomputable def math_bits_Len64_J4.b {α : Type} (N : Nat) (v182 : Int) (v183 : Int) (k0 : Int → Int → Option α) : Option α :=
  let x184 := (decide ((65536 : Int) ≤ v182))
  bif x184 then
    let x185 := (shrI .u64 v182 (16 : Int))
    let x186 := (IntKind.i64.wrap (v183 + (16 : Int)))
    k0 x185 x186
  else
    k0 v182 v183
theorem math_bits_Len64_J4.ex : ∃ f : ((α : Type) → Nat → Int → Int → (Int → Int → Option α) → Option α), f = fun α => @math_bits_Len64_J4.b α := ⟨_, rfl⟩
noncomputable def math_bits_Len64_J4 {α : Type} : Nat → Int → Int → (Int → Int → Option α) → Option α := Classical.choose math_bits_Len64_J4.ex α
theorem math_bits_Len64_J4.eq : @math_bits_Len64_J4 = @math_bits_Len64_J4.b := funext fun α => congrFun (Classical.choose_spec math_bits_Len64_J4.ex) α
noncomputable def math_bits_Len64_J7.b {α : Type} (N : Nat) (v189 : Int) (v190 : Int) (k0 : Int → Int → Option α) : Option α :=
  let x191 := (decide ((256 : Int) ≤ v189))
  bif x191 then
    let x192 := (shrI .u64 v189 (8 : Int))
    let x193 := (IntKind.i64.wrap (v190 + (8 : Int)))
    k0 x192 x193
  else
    k0 v189 v190
theorem math_bits_Len64_J7.ex : ∃ f : ((α : Type) → Nat → Int → Int → (Int → Int → Option α) → Option α), f = fun α => @math_bits_Len64_J7.b α := ⟨_, rfl⟩
noncomputable def math_bits_Len64_J7 {α : Type} : Nat → Int → Int → (Int → Int → Option α) → Option α := Classical.choose math_bits_Len64_J7.ex α
theorem math_bits_Len64_J7.eq : @math_bits_Len64_J7 = @math_bits_Len64_J7.b := funext fun α => congrFun (Classical.choose_spec math_bits_Len64_J7.ex) α
/-- math/bits.Len64 -/
noncomputable def math_bits_Len64.b {α : Type} (N : Nat) (a175 : Int) (k0 : Int → Option α) : Option α :=
  math_bits_Len64_J1 N a175 (0 : Int)
    (fun x180 x181 =>
      math_bits_Len64_J4 N x180 x181
        (fun x187 x188 =>
          math_bits_Len64_J7 N x187 x188
            (fun x194 x195 =>
              let x196 := IntKind.u8.wrap x194
              bif (decide (x196 < (0 : Int))) then
                none
              else
                match ((⟨#[0, 1, 2, 2, 3, 3, 3, 3, 4, 4, 4, 4, 4, 4, 4, 4, 5, 5, 5, 5, 5, 5, 5, 5, 5, 5, 5, 5, 5, 5, 5, 5, 6, 6, 6, 6, 6, 6, 6, 6, 6, 6, 6, 6, 6, 6, 6, 6, 6, 6, 6, 6, 6, 6, 6, 6, 6, 6, 6, 6, 6, 6, 6, 6, 7, 7, 7, 7, 7, 7, 7, 7, 7, 7, 7, 7, 7, 7, 7, 7, 7, 7, 7, 7, 7, 7, 7, 7, 7, 7, 7, 7, 7, 7, 7, 7, 7, 7, 7, 7, 7, 7, 7, 7, 7, 7, 7, 7, 7, 7, 7, 7, 7, 7, 7, 7, 7, 7, 7, 7, 7, 7, 7, 7, 7, 7, 7, 7, 8, 8, 8, 8, 8, 8, 8, 8, 8, 8, 8, 8, 8, 8, 8, 8, 8, 8, 8, 8, 8, 8, 8, 8, 8, 8, 8, 8, 8, 8, 8, 8, 8, 8, 8, 8, 8, 8, 8, 8, 8, 8, 8, 8, 8, 8, 8, 8, 8, 8, 8, 8, 8, 8, 8, 8, 8, 8, 8, 8, 8, 8, 8, 8, 8, 8, 8, 8, 8, 8, 8, 8, 8, 8, 8, 8, 8, 8, 8, 8, 8, 8, 8, 8, 8, 8, 8, 8, 8, 8, 8, 8, 8, 8, 8, 8, 8, 8, 8, 8, 8, 8, 8, 8, 8, 8, 8, 8, 8, 8, 8, 8, 8, 8, 8, 8, 8, 8, 8, 8, 8, 8, 8, 8, 8, 8, 8, 8]⟩ : ByteArray)[x196.toNat]? : Option UInt8) with
                | some x197 =>
                  let x198 := ((x197.toNat : Nat) : Int)
                  let x199 := IntKind.i64.wrap x198
                  let x200 := IntKind.i64.wrap (x195 + x199)
                  k0 x200
                | none => none)))
theorem math_bits_Len64.ex : ∃ f : ((α : Type) → Nat → Int → (Int → Option α) → Option α), f = fun α => @math_bits_Len64.b α := ⟨_, rfl⟩
noncomputable def math_bits_Len64 {α : Type} : Nat → Int → (Int → Option α) → Option α := Classical.choose math_bits_Len64.ex α
theorem math_bits_Len64.eq : @math_bits_Len64 = @math_bits_Len64.b := funext fun α => congrFun (Classical.choose_spec math_bits_Len64.ex) α

noncomputable def impl_BoxPath_L0r {α : Type} (N : Nat) (next : Int → List (Int × Int × Unit) → Int → Int → Option α) (k0 : Int → Option α) (v160 : Int) (v161 : List (Int × Int × Unit)) (v162 : Int) (v163 : Int) : Option α :=
  let x164 := decide (v163 < v162)
  bif x164 then
    bif (decide (v163 < (0 : Int))) then
      none
    else
      match v161[v163.toNat]? with
      | some x165 =>
        impl_Pair_steps N x165
          (fun x174 =>
            math_bits_Len64 N x174
              (fun x201 =>
                let x202 := IntKind.i64.wrap (v160 + x201)
                let x203 := (IntKind.i64.wrap (v163 + (1 : Int)))
                next x202 v161 v162 x203))
      | none => none
  else
    k0 v160
noncomputable def impl_BoxPath_L0.b {α : Type} (N n : Nat) (v160 : Int) (v161 : List (Int × Int × Unit)) (v162 : Int) (v163 : Int) (k0 : Int → Option α) : Option α :=
  Nat.rec (motive := fun _ => Int → List (Int × Int × Unit) → Int → Int → Option α) (fun _ _ _ _ => none) (fun _ next => impl_BoxPath_L0r N next k0) n v160 v161 v162 v163
theorem impl_BoxPath_L0.ex : ∃ f : ((α : Type) → Nat → Nat → Int → List (Int × Int × Unit) → Int → Int → (Int → Option α) → Option α), f = fun α => @impl_BoxPath_L0.b α := ⟨_, rfl⟩
noncomputable def impl_BoxPath_L0 {α : Type} : Nat → Nat → Int → List (Int × Int × Unit) → Int → Int → (Int → Option α) → Option α := Classical.choose impl_BoxPath_L0.ex α
theorem impl_BoxPath_L0.eq : @impl_BoxPath_L0 = @impl_BoxPath_L0.b := funext fun α => congrFun (Classical.choose_spec impl_BoxPath_L0.ex) α
theorem impl_BoxPath_L0.zero {α : Type} (N : Nat) (v160 : Int) (v161 : List (Int × Int × Unit)) (v162 : Int) (v163 : Int) (k0 : Int → Option α) : impl_BoxPath_L0 N 0 v160 v161 v162 v163 k0 = none := by rw [impl_BoxPath_L0.eq]; rfl
theorem impl_BoxPath_L0.succ {α : Type} (N n : Nat) (v160 : Int) (v161 : List (Int × Int × Unit)) (v162 : Int) (v163 : Int) (k0 : Int → Option α) : impl_BoxPath_L0 N (n + 1) v160 v161 v162 v163 k0 = impl_BoxPath_L0r N (fun y0 y1 y2 y3 => impl_BoxPath_L0 N n y0 y1 y2 y3 k0) k0 v160 v161 v162 v163 := by rw [impl_BoxPath_L0.eq]; rfl
/-- loop.example/pinfold/impl.BoxPath -/
noncomputable def impl_BoxPath.b {α : Type} (N : Nat) (a103 : Int) (a104 : (List (Int × Int × Unit)) × Unit) (k0 : Int → Option α) : Option α :=
  impl_BoxOk N a103 a104
    (fun x157 =>
      let x158 := !x157
      bif x158 then
        k0 (0 : Int)
      else
        let x159 := ((a104.1.length : Nat) : Int)
        impl_BoxPath_L0 N N (1 : Int) a104.1 x159 (0 : Int)
          (fun x204 =>
            k0 x204))
theorem impl_BoxPath.ex : ∃ f : ((α : Type) → Nat → Int → ((List (Int × Int × Unit)) × Unit) → (Int → Option α) → Option α), f = fun α => @impl_BoxPath.b α := ⟨_, rfl⟩
noncomputable def impl_BoxPath {α : Type} : Nat → Int → ((List (Int × Int × Unit)) × Unit) → (Int → Option α) → Option α := Classical.choose impl_BoxPath.ex α
theorem impl_BoxPath.eq : @impl_BoxPath = @impl_BoxPath.b := funext fun α => congrFun (Classical.choose_spec impl_BoxPath.ex) α

/-- loop.example/pinfold/laws.eqPair -/
noncomputable def laws_eqPair.b {α : Type} (N : Nat) (a222 : Int × Int × Unit) (a223 : Int × Int × Unit) (k0 : Bool → Option α) : Option α :=
  let x224 := !(decide (a222.1 = a223.1))
  bif x224 then
    k0 false
  else
    let x225 := !(decide (a222.2.1 = a223.2.1))
    bif x225 then
      k0 false
    else
      k0 true
theorem laws_eqPair.ex : ∃ f : ((α : Type) → Nat → (Int × Int × Unit) → (Int × Int × Unit) → (Bool → Option α) → Option α), f = fun α => @laws_eqPair.b α := ⟨_, rfl⟩
noncomputable def laws_eqPair {α : Type} : Nat → (Int × Int × Unit) → (Int × Int × Unit) → (Bool → Option α) → Option α := Classical.choose laws_eqPair.ex α
theorem laws_eqPair.eq : @laws_eqPair = @laws_eqPair.b := funext fun α => congrFun (Classical.choose_spec laws_eqPair.ex) α

noncomputable def laws_eqPairS_L0r {α : Type} (N : Nat) (next : List (Int × Int × Unit) → List (Int × Int × Unit) → Int → Option α) (k0 : Bool → Option α) (k1 : Option α) (v215 : List (Int × Int × Unit)) (v216 : List (Int × Int × Unit)) (v217 : Int) : Option α :=
  let x218 := ((v215.length : Nat) : Int)
  let x219 := decide (v217 < x218)
  bif x219 then
    bif (decide (v217 < (0 : Int))) then
      none
    else
      match v215[v217.toNat]? with
      | some x220 =>
        bif (decide (v217 < (0 : Int))) then
          none
        else
          match v216[v217.toNat]? with
          | some x221 =>
            laws_eqPair N x220 x221
              (fun x226 =>
                let x227 := !x226
                bif x227 then
                  k0 false
                else
                  let x228 := (IntKind.i64.wrap (v217 + (1 : Int)))
                  next v215 v216 x228)
          | none => none
      | none => none
  else
    k1
noncomputable def laws_eqPairS_L0.b {α : Type} (N n : Nat) (v215 : List (Int × Int × Unit)) (v216 : List (Int × Int × Unit)) (v217 : Int) (k0 : Bool → Option α) (k1 : Option α) : Option α :=
  Nat.rec (motive := fun _ => List (Int × Int × Unit) → List (Int × Int × Unit) → Int → Option α) (fun _ _ _ => none) (fun _ next => laws_eqPairS_L0r N next k0 k1) n v215 v216 v217
theorem laws_eqPairS_L0.ex : ∃ f : ((α : Type) → Nat → Nat → List (Int × Int × Unit) → List (Int × Int × Unit) → Int → (Bool → Option α) → (Option α) → Option α), f = fun α => @laws_eqPairS_L0.b α := ⟨_, rfl⟩
noncomputable def laws_eqPairS_L0 {α : Type} : Nat → Nat → List (Int × Int × Unit) → List (Int × Int × Unit) → Int → (Bool → Option α) → (Option α) → Option α := Classical.choose laws_eqPairS_L0.ex α
theorem laws_eqPairS_L0.eq : @laws_eqPairS_L0 = @laws_eqPairS_L0.b := funext fun α => congrFun (Classical.choose_spec laws_eqPairS_L0.ex) α
theorem laws_eqPairS_L0.zero {α : Type} (N : Nat) (v215 : List (Int × Int × Unit)) (v216 : List (Int × Int × Unit)) (v217 : Int) (k0 : Bool → Option α) (k1 : Option α) : laws_eqPairS_L0 N 0 v215 v216 v217 k0 k1 = none := by rw [laws_eqPairS_L0.eq]; rfl
theorem laws_eqPairS_L0.succ {α : Type} (N n : Nat) (v215 : List (Int × Int × Unit)) (v216 : List (Int × Int × Unit)) (v217 : Int) (k0 : Bool → Option α) (k1 : Option α) : laws_eqPairS_L0 N (n + 1) v215 v216 v217 k0 k1 = laws_eqPairS_L0r N (fun y0 y1 y2 => laws_eqPairS_L0 N n y0 y1 y2 k0 k1) k0 k1 v215 v216 v217 := by rw [laws_eqPairS_L0.eq]; rfl
/-- loop.example/pinfold/laws.eqPairS -/
noncomputable def laws_eqPairS.b {α : Type} (N : Nat) (a210 : List (Int × Int × Unit)) (a211 : List (Int × Int × Unit)) (k0 : Bool → Option α) : Option α :=
  let x212 := ((a210.length : Nat) : Int)
  let x213 := ((a211.length : Nat) : Int)
  let x214 := !(decide (x212 = x213))
  bif x214 then
    k0 false
  else
    laws_eqPairS_L0 N N a210 a211 (0 : Int)
      (fun x229 =>
        k0 x229)
      (
        k0 true)
theorem laws_eqPairS.ex : ∃ f : ((α : Type) → Nat → List (Int × Int × Unit) → List (Int × Int × Unit) → (Bool → Option α) → Option α), f = fun α => @laws_eqPairS.b α := ⟨_, rfl⟩
noncomputable def laws_eqPairS {α : Type} : Nat → List (Int × Int × Unit) → List (Int × Int × Unit) → (Bool → Option α) → Option α := Classical.choose laws_eqPairS.ex α
theorem laws_eqPairS.eq : @laws_eqPairS = @laws_eqPairS.b := funext fun α => congrFun (Classical.choose_spec laws_eqPairS.ex) α

/-- loop.example/pinfold/laws.eqBox -/
noncomputable def laws_eqBox.b {α : Type} (N : Nat) (a208 : (List (Int × Int × Unit)) × Unit) (a209 : (List (Int × Int × Unit)) × Unit) (k0 : Bool → Option α) : Option α :=
  laws_eqPairS N a208.1 a209.1
    (fun x230 =>
      let x231 := !x230
      bif x231 then
        k0 false
      else
        k0 true)
theorem laws_eqBox.ex : ∃ f : ((α : Type) → Nat → ((List (Int × Int × Unit)) × Unit) → ((List (Int × Int × Unit)) × Unit) → (Bool → Option α) → Option α), f = fun α => @laws_eqBox.b α := ⟨_, rfl⟩
noncomputable def laws_eqBox {α : Type} : Nat → ((List (Int × Int × Unit)) × Unit) → ((List (Int × Int × Unit)) × Unit) → (Bool → Option α) → Option α := Classical.choose laws_eqBox.ex α
theorem laws_eqBox.eq : @laws_eqBox = @laws_eqBox.b := funext fun α => congrFun (Classical.choose_spec laws_eqBox.ex) α

/-- loop.example/pinfold/laws.FnExactBoxPath -/
noncomputable def laws_FnExactBoxPath.b {α : Type} (N : Nat) (a1 : Int) (a2 : (List (Int × Int × Unit)) × Unit) (k0 : Bool → Option α) : Option α :=
  laws_szBox N a2 (1048576 : Int)
    (fun x12 =>
      let x13 := (decide (x12 < (0 : Int)))
      bif x13 then
        k0 true
      else
        laws_toBox N a2
          (fun x31 =>
            spec_BoxPath N a1 (x31, ())
              (fun x101 =>
                laws_toBox N a2
                  (fun x102 =>
                    impl_BoxPath N a1 (x102, ())
                      (fun x205 =>
                        let x206 := !(decide (x205 = x101))
                        bif x206 then
                          k0 false
                        else
                          laws_toBox N a2
                            (fun x207 =>
                              laws_eqBox N (x102, ()) (x207, ())
                                (fun x232 =>
                                  let x233 := !x232
                                  bif x233 then
                                    k0 false
                                  else
                                    k0 true)))))))
theorem laws_FnExactBoxPath.ex : ∃ f : ((α : Type) → Nat → Int → ((List (Int × Int × Unit)) × Unit) → (Bool → Option α) → Option α), f = fun α => @laws_FnExactBoxPath.b α := ⟨_, rfl⟩
noncomputable def laws_FnExactBoxPath {α : Type} : Nat → Int → ((List (Int × Int × Unit)) × Unit) → (Bool → Option α) → Option α := Classical.choose laws_FnExactBoxPath.ex α
theorem laws_FnExactBoxPath.eq : @laws_FnExactBoxPath = @laws_FnExactBoxPath.b := funext fun α => congrFun (Classical.choose_spec laws_FnExactBoxPath.ex) α

end
end Go.Proofs.YtaelbfbplamahaaAm
