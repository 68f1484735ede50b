/-
  The functions that the program computes, as the abstract machine tells them. Printed by amp.py.
-/
import Derived.Test.YtaelbfbplamahaaAmb
namespace Go.Proofs.YtaelbfbplamahaaAm
open Go
noncomputable section
set_option linter.unusedVariables false
set_option linter.unusedSimpArgs false

/-- loop.example/pinfold/laws.szPairS -/
noncomputable def laws_szPairS.b {α : Type} (N : Nat) (a7 : List (Int × Int × Unit)) (a8 : Int) (k0 : Int → Option α) : Option α :=
  let x9 := ((a7.length : Nat) : Int)
  let x10 := IntKind.i64.wrap (a8 - x9)
  let x11 := (decide (x10 < (0 : Int)))
  bif x11 then
    k0 (-1 : Int)
  else
    k0 x10
theorem laws_szPairS.ex : ∃ f : ((α : Type) → Nat → List (Int × Int × Unit) → Int → (Int → Option α) → Option α), f = fun α => @laws_szPairS.b α := ⟨_, rfl⟩
noncomputable def laws_szPairS {α : Type} : Nat → List (Int × Int × Unit) → Int → (Int → Option α) → Option α := Classical.choose laws_szPairS.ex α
theorem laws_szPairS.eq : @laws_szPairS = @laws_szPairS.b := funext fun α => congrFun (Classical.choose_spec laws_szPairS.ex) α

/-- loop.example/pinfold/laws.szBox -/
noncomputable def laws_szBox.b {α : Type} (N : Nat) (a5 : (List (Int × Int × Unit)) × Unit) (a6 : Int) (k0 : Int → Option α) : Option α :=
  laws_szPairS N a5.1 a6
    (fun x12 =>
      let x13 := (decide (x12 < (0 : Int)))
      bif x13 then
        k0 (-1 : Int)
      else
        k0 x12)
theorem laws_szBox.ex : ∃ f : ((α : Type) → Nat → ((List (Int × Int × Unit)) × Unit) → Int → (Int → Option α) → Option α), f = fun α => @laws_szBox.b α := ⟨_, rfl⟩
noncomputable def laws_szBox {α : Type} : Nat → ((List (Int × Int × Unit)) × Unit) → Int → (Int → Option α) → Option α := Classical.choose laws_szBox.ex α
theorem laws_szBox.eq : @laws_szBox = @laws_szBox.b := funext fun α => congrFun (Classical.choose_spec laws_szBox.ex) α

/-- loop.example/pinfold/laws.toPair -/
noncomputable def laws_toPair.b {α : Type} (N : Nat) (a26 : Int × Int × Unit) (k0 : (Int × Int × Unit) → Option α) : Option α :=
  k0 (a26.1, (a26.2.1, ()))
theorem laws_toPair.ex : ∃ f : ((α : Type) → Nat → (Int × Int × Unit) → ((Int × Int × Unit) → Option α) → Option α), f = fun α => @laws_toPair.b α := ⟨_, rfl⟩
noncomputable def laws_toPair {α : Type} : Nat → (Int × Int × Unit) → ((Int × Int × Unit) → Option α) → Option α := Classical.choose laws_toPair.ex α
theorem laws_toPair.eq : @laws_toPair = @laws_toPair.b := funext fun α => congrFun (Classical.choose_spec laws_toPair.ex) α

noncomputable def laws_toPairS_L0r {α : Type} (N : Nat) (next : List (Int × Int × Unit) → Int → List (Int × Int × Unit) → Option α) (k0 : List (Int × Int × Unit) → Option α) (v20 : List (Int × Int × Unit)) (v21 : Int) (v22 : List (Int × Int × Unit)) : Option α :=
  let x23 := ((v20.length : Nat) : Int)
  let x24 := decide (v21 < x23)
  bif x24 then
    bif (decide (v21 < (0 : Int))) then
      none
    else
      match v20[v21.toNat]? with
      | some x25 =>
        laws_toPair N x25
          (fun x27 =>
            bif (decide (v21 < (0 : Int))) then
              none
            else
              bif decide (v21.toNat < v22.length) then
                match v22[v21.toNat]? with
                | some x28 =>
                  let x29 := v22.set v21.toNat x27
                  let x30 := (IntKind.i64.wrap (v21 + (1 : Int)))
                  next v20 x30 x29
                | none => none
              else
                none)
      | none => none
  else
    k0 v22
noncomputable def laws_toPairS_L0.b {α : Type} (N n : Nat) (v20 : List (Int × Int × Unit)) (v21 : Int) (v22 : List (Int × Int × Unit)) (k0 : List (Int × Int × Unit) → Option α) : Option α :=
  Nat.rec (motive := fun _ => List (Int × Int × Unit) → Int → List (Int × Int × Unit) → Option α) (fun _ _ _ => none) (fun _ next => laws_toPairS_L0r N next k0) n v20 v21 v22
theorem laws_toPairS_L0.ex : ∃ f : ((α : Type) → Nat → Nat → List (Int × Int × Unit) → Int → List (Int × Int × Unit) → (List (Int × Int × Unit) → Option α) → Option α), f = fun α => @laws_toPairS_L0.b α := ⟨_, rfl⟩
noncomputable def laws_toPairS_L0 {α : Type} : Nat → Nat → List (Int × Int × Unit) → Int → List (Int × Int × Unit) → (List (Int × Int × Unit) → Option α) → Option α := Classical.choose laws_toPairS_L0.ex α
theorem laws_toPairS_L0.eq : @laws_toPairS_L0 = @laws_toPairS_L0.b := funext fun α => congrFun (Classical.choose_spec laws_toPairS_L0.ex) α
theorem laws_toPairS_L0.zero {α : Type} (N : Nat) (v20 : List (Int × Int × Unit)) (v21 : Int) (v22 : List (Int × Int × Unit)) (k0 : List (Int × Int × Unit) → Option α) : laws_toPairS_L0 N 0 v20 v21 v22 k0 = none := by rw [laws_toPairS_L0.eq]; rfl
theorem laws_toPairS_L0.succ {α : Type} (N n : Nat) (v20 : List (Int × Int × Unit)) (v21 : Int) (v22 : List (Int × Int × Unit)) (k0 : List (Int × Int × Unit) → Option α) : laws_toPairS_L0 N (n + 1) v20 v21 v22 k0 = laws_toPairS_L0r N (fun y0 y1 y2 => laws_toPairS_L0 N n y0 y1 y2 k0) k0 v20 v21 v22 := by rw [laws_toPairS_L0.eq]; rfl
/-- loop.example/pinfold/laws.toPairS -/
noncomputable def laws_toPairS.b {α : Type} (N : Nat) (a17 : List (Int × Int × Unit)) (k0 : List (Int × Int × Unit) → Option α) : Option α :=
  let x18 := ((a17.length : Nat) : Int)
  bif (decide ((0 : Int) ≤ x18)) then
    bif decide (x18 ≤ x18) then
      bif (decide (x18 ≤ ((8796093022208 : Nat) : Int))) then
        let x19 := (List.replicate x18.toNat ((0 : Int), ((0 : Int), ())))
        laws_toPairS_L0 N N a17 (0 : Int) x19
          (fun x31 =>
            k0 x31)
      else
        none
    else
      none
  else
    none
theorem laws_toPairS.ex : ∃ f : ((α : Type) → Nat → List (Int × Int × Unit) → (List (Int × Int × Unit) → Option α) → Option α), f = fun α => @laws_toPairS.b α := ⟨_, rfl⟩
noncomputable def laws_toPairS {α : Type} : Nat → List (Int × Int × Unit) → (List (Int × Int × Unit) → Option α) → Option α := Classical.choose laws_toPairS.ex α
theorem laws_toPairS.eq : @laws_toPairS = @laws_toPairS.b := funext fun α => congrFun (Classical.choose_spec laws_toPairS.ex) α

/-- loop.example/pinfold/laws.toBox -/
noncomputable def laws_toBox.b {α : Type} (N : Nat) (a16 : (List (Int × Int × Unit)) × Unit) (k0 : List (Int × Int × Unit) → Option α) : Option α :=
  laws_toPairS N a16.1
    (fun x32 =>
      k0 x32)
theorem laws_toBox.ex : ∃ f : ((α : Type) → Nat → ((List (Int × Int × Unit)) × Unit) → (List (Int × Int × Unit) → Option α) → Option α), f = fun α => @laws_toBox.b α := ⟨_, rfl⟩
noncomputable def laws_toBox {α : Type} : Nat → ((List (Int × Int × Unit)) × Unit) → (List (Int × Int × Unit) → Option α) → Option α := Classical.choose laws_toBox.ex α
theorem laws_toBox.eq : @laws_toBox = @laws_toBox.b := funext fun α => congrFun (Classical.choose_spec laws_toBox.ex) α

/-- loop.example/pinfold/spec.BitTop -/
noncomputable def spec_BitTop.b {α : Type} (N : Nat) (a53 : Int) (k0 : Int → Option α) : Option α :=
  let x54 := (decide (a53 = (32 : Int)))
  bif x54 then
    k0 (2139095040 : Int)
  else
    let x55 := (decide (a53 = (64 : Int)))
    bif x55 then
      k0 (9218868437227405312 : Int)
    else
      k0 (0 : Int)
theorem spec_BitTop.ex : ∃ f : ((α : Type) → Nat → Int → (Int → Option α) → Option α), f = fun α => @spec_BitTop.b α := ⟨_, rfl⟩
noncomputable def spec_BitTop {α : Type} : Nat → Int → (Int → Option α) → Option α := Classical.choose spec_BitTop.ex α
theorem spec_BitTop.eq : @spec_BitTop = @spec_BitTop.b := funext fun α => congrFun (Classical.choose_spec spec_BitTop.ex) α

/-- loop.example/pinfold/spec.l1Width -/
noncomputable def spec_l1Width.b {α : Type} (N : Nat) (a59 : Int) (k0 : Bool → Option α) : Option α :=
  let x60 := (decide (a59 = (32 : Int)))
  bif x60 then
    k0 true
  else
    let x61 := (decide (a59 = (64 : Int)))
    k0 x61
theorem spec_l1Width.ex : ∃ f : ((α : Type) → Nat → Int → (Bool → Option α) → Option α), f = fun α => @spec_l1Width.b α := ⟨_, rfl⟩
noncomputable def spec_l1Width {α : Type} : Nat → Int → (Bool → Option α) → Option α := Classical.choose spec_l1Width.ex α
theorem spec_l1Width.eq : @spec_l1Width = @spec_l1Width.b := funext fun α => congrFun (Classical.choose_spec spec_l1Width.ex) α

/-- loop.example/pinfold/spec.BitOk -/
noncomputable def spec_BitOk.b {α : Type} (N : Nat) (a57 : Int) (a58 : Int) (k0 : Bool → Option α) : Option α :=
  spec_l1Width N a57
    (fun x62 =>
      bif x62 then
        spec_BitTop N a57
          (fun x63 =>
            let x64 := IntKind.i64.wrap (0 - x63)
            let x65 := decide (x64 ≤ a58)
            bif x65 then
              spec_BitTop N a57
                (fun x66 =>
                  let x67 := decide (a58 ≤ x66)
                  k0 x67)
            else
              k0 false)
      else
        k0 false)
theorem spec_BitOk.ex : ∃ f : ((α : Type) → Nat → Int → Int → (Bool → Option α) → Option α), f = fun α => @spec_BitOk.b α := ⟨_, rfl⟩
noncomputable def spec_BitOk {α : Type} : Nat → Int → Int → (Bool → Option α) → Option α := Classical.choose spec_BitOk.ex α
theorem spec_BitOk.eq : @spec_BitOk = @spec_BitOk.b := funext fun α => congrFun (Classical.choose_spec spec_BitOk.ex) α

/-- loop.example/pinfold/spec.PairOk -/
noncomputable def spec_PairOk.b {α : Type} (N : Nat) (a51 : Int) (a52 : Int × Int × Unit) (k0 : Bool → Option α) : Option α :=
  spec_BitTop N a51
    (fun x56 =>
      spec_BitOk N a51 a52.1
        (fun x68 =>
          bif x68 then
            spec_BitOk N a51 a52.2.1
              (fun x69 =>
                bif x69 then
                  let x70 := decide (a52.1 ≤ a52.2.1)
                  bif x70 then
                    let x71 := decide (a52.1 < x56)
                    bif x71 then
                      let x72 := IntKind.i64.wrap (0 - x56)
                      let x73 := decide (x72 < a52.2.1)
                      k0 x73
                    else
                      k0 false
                  else
                    k0 false
                else
                  k0 false)
          else
            k0 false))
theorem spec_PairOk.ex : ∃ f : ((α : Type) → Nat → Int → (Int × Int × Unit) → (Bool → Option α) → Option α), f = fun α => @spec_PairOk.b α := ⟨_, rfl⟩
noncomputable def spec_PairOk {α : Type} : Nat → Int → (Int × Int × Unit) → (Bool → Option α) → Option α := Classical.choose spec_PairOk.ex α
theorem spec_PairOk.eq : @spec_PairOk = @spec_PairOk.b := funext fun α => congrFun (Classical.choose_spec spec_PairOk.ex) α

noncomputable def spec_BoxOk_L0r {α : Type} (N : Nat) (next : Int → Int → ((List (Int × Int × Unit)) × Unit) → Option α) (k0 : Bool → Option α) (k1 : Option α) (v45 : Int) (v46 : Int) (v47 : (List (Int × Int × Unit)) × Unit) : Option α :=
  let x48 := ((v47.1.length : Nat) : Int)
  let x49 := decide (v46 < x48)
  bif x49 then
    bif (decide (v46 < (0 : Int))) then
      none
    else
      match v47.1[v46.toNat]? with
      | some x50 =>
        spec_PairOk N v45 x50
          (fun x74 =>
            let x75 := !x74
            bif x75 then
              k0 false
            else
              let x76 := (IntKind.i64.wrap (v46 + (1 : Int)))
              next v45 x76 v47)
      | none => none
  else
    k1
noncomputable def spec_BoxOk_L0.b {α : Type} (N n : Nat) (v45 : Int) (v46 : Int) (v47 : (List (Int × Int × Unit)) × Unit) (k0 : Bool → Option α) (k1 : Option α) : Option α :=
  Nat.rec (motive := fun _ => Int → Int → ((List (Int × Int × Unit)) × Unit) → Option α) (fun _ _ _ => none) (fun _ next => spec_BoxOk_L0r N next k0 k1) n v45 v46 v47
theorem spec_BoxOk_L0.ex : ∃ f : ((α : Type) → Nat → Nat → Int → Int → ((List (Int × Int × Unit)) × Unit) → (Bool → Option α) → (Option α) → Option α), f = fun α => @spec_BoxOk_L0.b α := ⟨_, rfl⟩
noncomputable def spec_BoxOk_L0 {α : Type} : Nat → Nat → Int → Int → ((List (Int × Int × Unit)) × Unit) → (Bool → Option α) → (Option α) → Option α := Classical.choose spec_BoxOk_L0.ex α
theorem spec_BoxOk_L0.eq : @spec_BoxOk_L0 = @spec_BoxOk_L0.b := funext fun α => congrFun (Classical.choose_spec spec_BoxOk_L0.ex) α
theorem spec_BoxOk_L0.zero {α : Type} (N : Nat) (v45 : Int) (v46 : Int) (v47 : (List (Int × Int × Unit)) × Unit) (k0 : Bool → Option α) (k1 : Option α) : spec_BoxOk_L0 N 0 v45 v46 v47 k0 k1 = none := by rw [spec_BoxOk_L0.eq]; rfl
theorem spec_BoxOk_L0.succ {α : Type} (N n : Nat) (v45 : Int) (v46 : Int) (v47 : (List (Int × Int × Unit)) × Unit) (k0 : Bool → Option α) (k1 : Option α) : spec_BoxOk_L0 N (n + 1) v45 v46 v47 k0 k1 = spec_BoxOk_L0r N (fun y0 y1 y2 => spec_BoxOk_L0 N n y0 y1 y2 k0 k1) k0 k1 v45 v46 v47 := by rw [spec_BoxOk_L0.eq]; rfl
/-- loop.example/pinfold/spec.BoxOk -/
noncomputable def spec_BoxOk.b {α : Type} (N : Nat) (a39 : Int) (a40 : (List (Int × Int × Unit)) × Unit) (k0 : Bool → Option α) : Option α :=
  let x41 := ((a40.1.length : Nat) : Int)
  let x42 := (decide (x41 < (1 : Int)))
  bif x42 then
    k0 false
  else
    let x43 := ((a40.1.length : Nat) : Int)
    let x44 := (decide ((6 : Int) < x43))
    bif x44 then
      k0 false
    else
      spec_BoxOk_L0 N N a39 (0 : Int) a40
        (fun x77 =>
          k0 x77)
        (
          k0 true)
theorem spec_BoxOk.ex : ∃ f : ((α : Type) → Nat → Int → ((List (Int × Int × Unit)) × Unit) → (Bool → Option α) → Option α), f = fun α => @spec_BoxOk.b α := ⟨_, rfl⟩
noncomputable def spec_BoxOk {α : Type} : Nat → Int → ((List (Int × Int × Unit)) × Unit) → (Bool → Option α) → Option α := Classical.choose spec_BoxOk.ex α
theorem spec_BoxOk.eq : @spec_BoxOk = @spec_BoxOk.b := funext fun α => congrFun (Classical.choose_spec spec_BoxOk.ex) α

/-- loop.example/pinfold/spec.BitGap -/
noncomputable def spec_BitGap.b {α : Type} (N : Nat) (a95 : Int) (a96 : Int) (k0 : Int → Option α) : Option α :=
  let x97 := decide (a96 < a95)
  bif x97 then
    k0 (0 : Int)
  else
    let x98 := IntKind.u64.wrap a96
    let x99 := IntKind.u64.wrap a95
    let x100 := IntKind.u64.wrap (x98 - x99)
    k0 x100
theorem spec_BitGap.ex : ∃ f : ((α : Type) → Nat → Int → Int → (Int → Option α) → Option α), f = fun α => @spec_BitGap.b α := ⟨_, rfl⟩
noncomputable def spec_BitGap {α : Type} : Nat → Int → Int → (Int → Option α) → Option α := Classical.choose spec_BitGap.ex α
theorem spec_BitGap.eq : @spec_BitGap = @spec_BitGap.b := funext fun α => congrFun (Classical.choose_spec spec_BitGap.ex) α

/-- loop.example/pinfold/spec.l3Gap -/
noncomputable def spec_l3Gap.b {α : Type} (N : Nat) (a94 : Int × Int × Unit) (k0 : Int → Option α) : Option α :=
  spec_BitGap N a94.1 a94.2.1
    (fun x101 =>
      k0 x101)
theorem spec_l3Gap.ex : ∃ f : ((α : Type) → Nat → (Int × Int × Unit) → (Int → Option α) → Option α), f = fun α => @spec_l3Gap.b α := ⟨_, rfl⟩
noncomputable def spec_l3Gap {α : Type} : Nat → (Int × Int × Unit) → (Int → Option α) → Option α := Classical.choose spec_l3Gap.ex α
theorem spec_l3Gap.eq : @spec_l3Gap = @spec_l3Gap.b := funext fun α => congrFun (Classical.choose_spec spec_l3Gap.ex) α

/-- loop.example/pinfold/spec.PairCut -/
noncomputable def spec_PairCut.b {α : Type} (N : Nat) (a84 : Int) (a85 : Int × Int × Unit) (a86 : Int × Int × Unit) (k0 : (Int × Int × Unit) → (Int × Int × Unit) → Bool → Option α) : Option α :=
  spec_PairOk N a84 a85
    (fun x87 =>
      let x88 := !x87
      bif x88 then
        k0 ((0 : Int), ((0 : Int), ())) ((0 : Int), ((0 : Int), ())) false
      else
        let x89 := decide (a86.2.1 ≤ a86.1)
        bif x89 then
          k0 ((0 : Int), ((0 : Int), ())) ((0 : Int), ((0 : Int), ())) false
        else
          spec_PairOk N a84 (a85.1, (a86.1, ()))
            (fun x90 =>
              let x91 := !x90
              bif x91 then
                k0 ((0 : Int), ((0 : Int), ())) ((0 : Int), ((0 : Int), ())) false
              else
                spec_PairOk N a84 (a86.2.1, (a85.2.1, ()))
                  (fun x92 =>
                    let x93 := !x92
                    bif x93 then
                      k0 ((0 : Int), ((0 : Int), ())) ((0 : Int), ((0 : Int), ())) false
                    else
                      spec_l3Gap N (a86.2.1, (a85.2.1, ()))
                        (fun x102 =>
                          spec_l3Gap N (a85.1, (a86.1, ()))
                            (fun x103 =>
                              let x104 := decide (x102 < x103)
                              bif x104 then
                                k0 (a86.2.1, (a85.2.1, ())) (a85.1, (a86.1, ())) true
                              else
                                k0 (a85.1, (a86.1, ())) (a86.2.1, (a85.2.1, ())) true)))))
theorem spec_PairCut.ex : ∃ f : ((α : Type) → Nat → Int → (Int × Int × Unit) → (Int × Int × Unit) → ((Int × Int × Unit) → (Int × Int × Unit) → Bool → Option α) → Option α), f = fun α => @spec_PairCut.b α := ⟨_, rfl⟩
noncomputable def spec_PairCut {α : Type} : Nat → Int → (Int × Int × Unit) → (Int × Int × Unit) → ((Int × Int × Unit) → (Int × Int × Unit) → Bool → Option α) → Option α := Classical.choose spec_PairCut.ex α
theorem spec_PairCut.eq : @spec_PairCut = @spec_PairCut.b := funext fun α => congrFun (Classical.choose_spec spec_PairCut.ex) α

noncomputable def spec_l4With_J5.b {α : Type} (N : Nat) (v120 : Int) (v121 : Int) (v122 : (List (Int × Int × Unit)) × Unit) (v123 : Int × Int × Unit) (v124 : List (Int × Int × Unit)) (v125 : List (Int × Int × Unit)) (k0 : Int → Int → ((List (Int × Int × Unit)) × Unit) → (Int × Int × Unit) → List (Int × Int × Unit) → List (Int × Int × Unit) → Option α) : Option α :=
  let x126 := decide (v121 = v120)
  bif x126 then
    let x127 := [v123]
    bif decide (v125.length + x127.length ≤ 8796093022208) then
      let x128 := v125 ++ x127
      k0 v120 v121 v122 v123 v124 x128
    else
      none
  else
    bif (decide (v121 < (0 : Int))) then
      none
    else
      match v122.1[v121.toNat]? with
      | some x129 =>
        let x130 := [x129]
        bif decide (v125.length + x130.length ≤ 8796093022208) then
          let x131 := v125 ++ x130
          k0 v120 v121 v122 v123 v124 x131
        else
          none
      | none => none
theorem spec_l4With_J5.ex : ∃ f : ((α : Type) → Nat → Int → Int → ((List (Int × Int × Unit)) × Unit) → (Int × Int × Unit) → List (Int × Int × Unit) → List (Int × Int × Unit) → (Int → Int → ((List (Int × Int × Unit)) × Unit) → (Int × Int × Unit) → List (Int × Int × Unit) → List (Int × Int × Unit) → Option α) → Option α), f = fun α => @spec_l4With_J5.b α := ⟨_, rfl⟩
noncomputable def spec_l4With_J5 {α : Type} : Nat → Int → Int → ((List (Int × Int × Unit)) × Unit) → (Int × Int × Unit) → List (Int × Int × Unit) → List (Int × Int × Unit) → (Int → Int → ((List (Int × Int × Unit)) × Unit) → (Int × Int × Unit) → List (Int × Int × Unit) → List (Int × Int × Unit) → Option α) → Option α := Classical.choose spec_l4With_J5.ex α
theorem spec_l4With_J5.eq : @spec_l4With_J5 = @spec_l4With_J5.b := funext fun α => congrFun (Classical.choose_spec spec_l4With_J5.ex) α
noncomputable def spec_l4With_L0r {α : Type} (N : Nat) (next : Int → Int → ((List (Int × Int × Unit)) × Unit) → (Int × Int × Unit) → List (Int × Int × Unit) → List (Int × Int × Unit) → Option α) (k0 : List (Int × Int × Unit) → List (Int × Int × Unit) → Option α) (v112 : Int) (v113 : Int) (v114 : (List (Int × Int × Unit)) × Unit) (v115 : Int × Int × Unit) (v116 : List (Int × Int × Unit)) (v117 : List (Int × Int × Unit)) : Option α :=
  let x118 := ((v114.1.length : Nat) : Int)
  let x119 := decide (v113 < x118)
  bif x119 then
    spec_l4With_J5 N v112 v113 v114 v115 v116 v117
      (fun x132 x133 x134 x135 x136 x137 =>
        let x138 := (IntKind.i64.wrap (x133 + (1 : Int)))
        next x132 x138 x134 x135 x136 x137)
  else
    k0 v116 v117
noncomputable def spec_l4With_L0.b {α : Type} (N n : Nat) (v112 : Int) (v113 : Int) (v114 : (List (Int × Int × Unit)) × Unit) (v115 : Int × Int × Unit) (v116 : List (Int × Int × Unit)) (v117 : List (Int × Int × Unit)) (k0 : List (Int × Int × Unit) → List (Int × Int × Unit) → Option α) : Option α :=
  Nat.rec (motive := fun _ => Int → Int → ((List (Int × Int × Unit)) × Unit) → (Int × Int × Unit) → List (Int × Int × Unit) → List (Int × Int × Unit) → Option α) (fun _ _ _ _ _ _ => none) (fun _ next => spec_l4With_L0r N next k0) n v112 v113 v114 v115 v116 v117
theorem spec_l4With_L0.ex : ∃ f : ((α : Type) → Nat → Nat → Int → Int → ((List (Int × Int × Unit)) × Unit) → (Int × Int × Unit) → List (Int × Int × Unit) → List (Int × Int × Unit) → (List (Int × Int × Unit) → List (Int × Int × Unit) → Option α) → Option α), f = fun α => @spec_l4With_L0.b α := ⟨_, rfl⟩
noncomputable def spec_l4With_L0 {α : Type} : Nat → Nat → Int → Int → ((List (Int × Int × Unit)) × Unit) → (Int × Int × Unit) → List (Int × Int × Unit) → List (Int × Int × Unit) → (List (Int × Int × Unit) → List (Int × Int × Unit) → Option α) → Option α := Classical.choose spec_l4With_L0.ex α
theorem spec_l4With_L0.eq : @spec_l4With_L0 = @spec_l4With_L0.b := funext fun α => congrFun (Classical.choose_spec spec_l4With_L0.ex) α
theorem spec_l4With_L0.zero {α : Type} (N : Nat) (v112 : Int) (v113 : Int) (v114 : (List (Int × Int × Unit)) × Unit) (v115 : Int × Int × Unit) (v116 : List (Int × Int × Unit)) (v117 : List (Int × Int × Unit)) (k0 : List (Int × Int × Unit) → List (Int × Int × Unit) → Option α) : spec_l4With_L0 N 0 v112 v113 v114 v115 v116 v117 k0 = none := by rw [spec_l4With_L0.eq]; rfl
theorem spec_l4With_L0.succ {α : Type} (N n : Nat) (v112 : Int) (v113 : Int) (v114 : (List (Int × Int × Unit)) × Unit) (v115 : Int × Int × Unit) (v116 : List (Int × Int × Unit)) (v117 : List (Int × Int × Unit)) (k0 : List (Int × Int × Unit) → List (Int × Int × Unit) → Option α) : spec_l4With_L0 N (n + 1) v112 v113 v114 v115 v116 v117 k0 = spec_l4With_L0r N (fun y0 y1 y2 y3 y4 y5 => spec_l4With_L0 N n y0 y1 y2 y3 y4 y5 k0) k0 v112 v113 v114 v115 v116 v117 := by rw [spec_l4With_L0.eq]; rfl
/-- loop.example/pinfold/spec.l4With -/
noncomputable def spec_l4With.b {α : Type} (N : Nat) (a109 : (List (Int × Int × Unit)) × Unit) (a110 : Int) (a111 : Int × Int × Unit) (k0 : ((List (Int × Int × Unit)) × Unit) → Option α) : Option α :=
  spec_l4With_L0 N N a110 (0 : Int) a109 a111 [] []
    (fun _ x140 =>
      k0 (x140, ()))
theorem spec_l4With.ex : ∃ f : ((α : Type) → Nat → ((List (Int × Int × Unit)) × Unit) → Int → (Int × Int × Unit) → (((List (Int × Int × Unit)) × Unit) → Option α) → Option α), f = fun α => @spec_l4With.b α := ⟨_, rfl⟩
noncomputable def spec_l4With {α : Type} : Nat → ((List (Int × Int × Unit)) × Unit) → Int → (Int × Int × Unit) → (((List (Int × Int × Unit)) × Unit) → Option α) → Option α := Classical.choose spec_l4With.ex α
theorem spec_l4With.eq : @spec_l4With = @spec_l4With.b := funext fun α => congrFun (Classical.choose_spec spec_l4With.ex) α

/-- loop.example/pinfold/spec.BoxCut -/
noncomputable def spec_BoxCut.b {α : Type} (N : Nat) (a35 : Int) (a36 : (List (Int × Int × Unit)) × Unit) (a37 : Int) (a38 : Int × Int × Unit) (k0 : ((List (Int × Int × Unit)) × Unit) → ((List (Int × Int × Unit)) × Unit) → Bool → Option α) : Option α :=
  spec_BoxOk N a35 a36
    (fun x78 =>
      let x79 := !x78
      bif x79 then
        k0 ([], ()) ([], ()) false
      else
        let x80 := (decide (a37 < (0 : Int)))
        bif x80 then
          k0 ([], ()) ([], ()) false
        else
          let x81 := ((a36.1.length : Nat) : Int)
          let x82 := decide (x81 ≤ a37)
          bif x82 then
            k0 ([], ()) ([], ()) false
          else
            bif (decide (a37 < (0 : Int))) then
              none
            else
              match a36.1[a37.toNat]? with
              | some x83 =>
                spec_PairCut N a35 x83 a38
                  (fun x105 x106 x107 =>
                    let x108 := !x107
                    bif x108 then
                      k0 ([], ()) ([], ()) false
                    else
                      spec_l4With N a36 a37 x105
                        (fun x141 =>
                          spec_l4With N a36 a37 x106
                            (fun x142 =>
                              k0 x141 x142 true)))
              | none => none)
theorem spec_BoxCut.ex : ∃ f : ((α : Type) → Nat → Int → ((List (Int × Int × Unit)) × Unit) → Int → (Int × Int × Unit) → (((List (Int × Int × Unit)) × Unit) → ((List (Int × Int × Unit)) × Unit) → Bool → Option α) → Option α), f = fun α => @spec_BoxCut.b α := ⟨_, rfl⟩
noncomputable def spec_BoxCut {α : Type} : Nat → Int → ((List (Int × Int × Unit)) × Unit) → Int → (Int × Int × Unit) → (((List (Int × Int × Unit)) × Unit) → ((List (Int × Int × Unit)) × Unit) → Bool → Option α) → Option α := Classical.choose spec_BoxCut.ex α
theorem spec_BoxCut.eq : @spec_BoxCut = @spec_BoxCut.b := funext fun α => congrFun (Classical.choose_spec spec_BoxCut.ex) α

/-- loop.example/pinfold/impl.in -/
noncomputable def impl_in.b {α : Type} (N : Nat) (a160 : Int) (a161 : Int) (a162 : Int) (k0 : Bool → Option α) : Option α :=
  let x163 := decide (a161 ≤ a160)
  bif x163 then
    let x164 := decide (a160 ≤ a162)
    k0 x164
  else
    k0 false
theorem impl_in.ex : ∃ f : ((α : Type) → Nat → Int → Int → Int → (Bool → Option α) → Option α), f = fun α => @impl_in.b α := ⟨_, rfl⟩
noncomputable def impl_in {α : Type} : Nat → Int → Int → Int → (Bool → Option α) → Option α := Classical.choose impl_in.ex α
theorem impl_in.eq : @impl_in = @impl_in.b := funext fun α => congrFun (Classical.choose_spec impl_in.ex) α

/-- loop.example/pinfold/impl.formatOf -/
noncomputable def impl_formatOf.b {α : Type} (N : Nat) (a182 : Int) (k0 : (Int × Int × Int × Int × Unit) → Bool → Option α) : Option α :=
  let x183 := (decide (a182 = (32 : Int)))
  bif x183 then
    k0 ((23 : Int), ((-149 : Int), ((127 : Int), ((2139095040 : Int), ())))) true
  else
    let x184 := (decide (a182 = (64 : Int)))
    bif x184 then
      k0 ((52 : Int), ((-1074 : Int), ((1023 : Int), ((9218868437227405312 : Int), ())))) true
    else
      k0 ((0 : Int), ((0 : Int), ((0 : Int), ((0 : Int), ())))) false
theorem impl_formatOf.ex : ∃ f : ((α : Type) → Nat → Int → ((Int × Int × Int × Int × Unit) → Bool → Option α) → Option α), f = fun α => @impl_formatOf.b α := ⟨_, rfl⟩
noncomputable def impl_formatOf {α : Type} : Nat → Int → ((Int × Int × Int × Int × Unit) → Bool → Option α) → Option α := Classical.choose impl_formatOf.ex α
theorem impl_formatOf.eq : @impl_formatOf = @impl_formatOf.b := funext fun α => congrFun (Classical.choose_spec impl_formatOf.ex) α

/-- loop.example/pinfold/impl.BitTop -/
noncomputable def impl_BitTop.b {α : Type} (N : Nat) (a181 : Int) (k0 : Int → Option α) : Option α :=
  impl_formatOf N a181
    (fun x185 _ =>
      k0 x185.2.2.2.1)
theorem impl_BitTop.ex : ∃ f : ((α : Type) → Nat → Int → (Int → Option α) → Option α), f = fun α => @impl_BitTop.b α := ⟨_, rfl⟩
noncomputable def impl_BitTop {α : Type} : Nat → Int → (Int → Option α) → Option α := Classical.choose impl_BitTop.ex α
theorem impl_BitTop.eq : @impl_BitTop = @impl_BitTop.b := funext fun α => congrFun (Classical.choose_spec impl_BitTop.ex) α

/-- loop.example/pinfold/impl.BitOk -/
noncomputable def impl_BitOk.b {α : Type} (N : Nat) (a188 : Int) (a189 : Int) (k0 : Bool → Option α) : Option α :=
  impl_formatOf N a188
    (fun x190 x191 =>
      bif x191 then
        let x192 := IntKind.i64.wrap (0 - x190.2.2.2.1)
        impl_in N a189 x192 x190.2.2.2.1
          (fun x193 =>
            k0 x193)
      else
        k0 false)
theorem impl_BitOk.ex : ∃ f : ((α : Type) → Nat → Int → Int → (Bool → Option α) → Option α), f = fun α => @impl_BitOk.b α := ⟨_, rfl⟩
noncomputable def impl_BitOk {α : Type} : Nat → Int → Int → (Bool → Option α) → Option α := Classical.choose impl_BitOk.ex α
theorem impl_BitOk.eq : @impl_BitOk = @impl_BitOk.b := funext fun α => congrFun (Classical.choose_spec impl_BitOk.ex) α

/-- loop.example/pinfold/impl.PairOk -/
noncomputable def impl_PairOk.b {α : Type} (N : Nat) (a179 : Int) (a180 : Int × Int × Unit) (k0 : Bool → Option α) : Option α :=
  impl_BitTop N a179
    (fun x187 =>
      impl_BitOk N a179 a180.1
        (fun x194 =>
          bif x194 then
            impl_BitOk N a179 a180.2.1
              (fun x195 =>
                bif x195 then
                  let x196 := decide (a180.1 ≤ a180.2.1)
                  bif x196 then
                    let x197 := !(decide (a180.1 = x187))
                    bif x197 then
                      let x198 := IntKind.i64.wrap (0 - x187)
                      let x199 := !(decide (a180.2.1 = x198))
                      k0 x199
                    else
                      k0 false
                  else
                    k0 false
                else
                  k0 false)
          else
            k0 false))
theorem impl_PairOk.ex : ∃ f : ((α : Type) → Nat → Int → (Int × Int × Unit) → (Bool → Option α) → Option α), f = fun α => @impl_PairOk.b α := ⟨_, rfl⟩
noncomputable def impl_PairOk {α : Type} : Nat → Int → (Int × Int × Unit) → (Bool → Option α) → Option α := Classical.choose impl_PairOk.ex α
theorem impl_PairOk.eq : @impl_PairOk = @impl_PairOk.b := funext fun α => congrFun (Classical.choose_spec impl_PairOk.ex) α

/-- loop.example/pinfold/impl.BoxOk$1 -/
noncomputable def impl_BoxOk_1.b {α : Type} (N : Nat) (a177 : Int × Int × Unit) (a178 : Int) (k0 : Bool → Option α) : Option α :=
  impl_PairOk N a178 a177
    (fun x200 =>
      let x201 := !x200
      k0 x201)
theorem impl_BoxOk_1.ex : ∃ f : ((α : Type) → Nat → (Int × Int × Unit) → Int → (Bool → Option α) → Option α), f = fun α => @impl_BoxOk_1.b α := ⟨_, rfl⟩
noncomputable def impl_BoxOk_1 {α : Type} : Nat → (Int × Int × Unit) → Int → (Bool → Option α) → Option α := Classical.choose impl_BoxOk_1.ex α
theorem impl_BoxOk_1.eq : @impl_BoxOk_1 = @impl_BoxOk_1.b := funext fun α => congrFun (Classical.choose_spec impl_BoxOk_1.ex) α

noncomputable def slices_IndexFunc_impl_Pair_impl_Pair__impl_BoxOk_1_L0r {α : Type} (N : Nat) (next : List (Int × Int × Unit) → Int → Int → Int → Option α) (k0 : Int → Option α) (k1 : Option α) (v171 : List (Int × Int × Unit)) (v172 : Int) (v173 : Int) (v174 : Int) : Option α :=
  let x175 := decide (v174 < v173)
  bif x175 then
    bif (decide (v174 < (0 : Int))) then
      none
    else
      match v171[v174.toNat]? with
      | some x176 =>
        impl_BoxOk_1 N x176 v172
          (fun x202 =>
            bif x202 then
              k0 v174
            else
              let x203 := (IntKind.i64.wrap (v174 + (1 : Int)))
              next v171 v172 v173 x203)
      | none => none
  else
    k1
noncomputable def slices_IndexFunc_impl_Pair_impl_Pair__impl_BoxOk_1_L0.b {α : Type} (N n : Nat) (v171 : List (Int × Int × Unit)) (v172 : Int) (v173 : Int) (v174 : Int) (k0 : Int → Option α) (k1 : Option α) : Option α :=
  Nat.rec (motive := fun _ => List (Int × Int × Unit) → Int → Int → Int → Option α) (fun _ _ _ _ => none) (fun _ next => slices_IndexFunc_impl_Pair_impl_Pair__impl_BoxOk_1_L0r N next k0 k1) n v171 v172 v173 v174
theorem slices_IndexFunc_impl_Pair_impl_Pair__impl_BoxOk_1_L0.ex : ∃ f : ((α : Type) → Nat → Nat → List (Int × Int × Unit) → Int → Int → Int → (Int → Option α) → (Option α) → Option α), f = fun α => @slices_IndexFunc_impl_Pair_impl_Pair__impl_BoxOk_1_L0.b α := ⟨_, rfl⟩
noncomputable def slices_IndexFunc_impl_Pair_impl_Pair__impl_BoxOk_1_L0 {α : Type} : Nat → Nat → List (Int × Int × Unit) → Int → Int → Int → (Int → Option α) → (Option α) → Option α := Classical.choose slices_IndexFunc_impl_Pair_impl_Pair__impl_BoxOk_1_L0.ex α
theorem slices_IndexFunc_impl_Pair_impl_Pair__impl_BoxOk_1_L0.eq : @slices_IndexFunc_impl_Pair_impl_Pair__impl_BoxOk_1_L0 = @slices_IndexFunc_impl_Pair_impl_Pair__impl_BoxOk_1_L0.b := funext fun α => congrFun (Classical.choose_spec slices_IndexFunc_impl_Pair_impl_Pair__impl_BoxOk_1_L0.ex) α
theorem slices_IndexFunc_impl_Pair_impl_Pair__impl_BoxOk_1_L0.zero {α : Type} (N : Nat) (v171 : List (Int × Int × Unit)) (v172 : Int) (v173 : Int) (v174 : Int) (k0 : Int → Option α) (k1 : Option α) : slices_IndexFunc_impl_Pair_impl_Pair__impl_BoxOk_1_L0 N 0 v171 v172 v173 v174 k0 k1 = none := by rw [slices_IndexFunc_impl_Pair_impl_Pair__impl_BoxOk_1_L0.eq]; rfl
theorem slices_IndexFunc_impl_Pair_impl_Pair__impl_BoxOk_1_L0.succ {α : Type} (N n : Nat) (v171 : List (Int × Int × Unit)) (v172 : Int) (v173 : Int) (v174 : Int) (k0 : Int → Option α) (k1 : Option α) : slices_IndexFunc_impl_Pair_impl_Pair__impl_BoxOk_1_L0 N (n + 1) v171 v172 v173 v174 k0 k1 = slices_IndexFunc_impl_Pair_impl_Pair__impl_BoxOk_1_L0r N (fun y0 y1 y2 y3 => slices_IndexFunc_impl_Pair_impl_Pair__impl_BoxOk_1_L0 N n y0 y1 y2 y3 k0 k1) k0 k1 v171 v172 v173 v174 := by rw [slices_IndexFunc_impl_Pair_impl_Pair__impl_BoxOk_1_L0.eq]; rfl
/-- slices.IndexFunc[[]loop.example/pinfold/impl.Pair,loop.example/pinfold/impl.Pair] -/
noncomputable def slices_IndexFunc_impl_Pair_impl_Pair__impl_BoxOk_1.b {α : Type} (N : Nat) (a168 : List (Int × Int × Unit)) (a169 : Int) (k0 : Int → Option α) : Option α :=
  let x170 := ((a168.length : Nat) : Int)
  slices_IndexFunc_impl_Pair_impl_Pair__impl_BoxOk_1_L0 N N a168 a169 x170 (0 : Int)
    (fun x204 =>
      k0 x204)
    (
      k0 (-1 : Int))
theorem slices_IndexFunc_impl_Pair_impl_Pair__impl_BoxOk_1.ex : ∃ f : ((α : Type) → Nat → List (Int × Int × Unit) → Int → (Int → Option α) → Option α), f = fun α => @slices_IndexFunc_impl_Pair_impl_Pair__impl_BoxOk_1.b α := ⟨_, rfl⟩
noncomputable def slices_IndexFunc_impl_Pair_impl_Pair__impl_BoxOk_1 {α : Type} : Nat → List (Int × Int × Unit) → Int → (Int → Option α) → Option α := Classical.choose slices_IndexFunc_impl_Pair_impl_Pair__impl_BoxOk_1.ex α
theorem slices_IndexFunc_impl_Pair_impl_Pair__impl_BoxOk_1.eq : @slices_IndexFunc_impl_Pair_impl_Pair__impl_BoxOk_1 = @slices_IndexFunc_impl_Pair_impl_Pair__impl_BoxOk_1.b := funext fun α => congrFun (Classical.choose_spec slices_IndexFunc_impl_Pair_impl_Pair__impl_BoxOk_1.ex) α

/-- slices.ContainsFunc[[]loop.example/pinfold/impl.Pair,loop.example/pinfold/impl.Pair] -/
noncomputable def slices_ContainsFunc_impl_Pair_impl_Pair__impl_BoxOk_1.b {α : Type} (N : Nat) (a166 : List (Int × Int × Unit)) (a167 : Int) (k0 : Bool → Option α) : Option α :=
  slices_IndexFunc_impl_Pair_impl_Pair__impl_BoxOk_1 N a166 a167
    (fun x205 =>
      let x206 := (decide ((0 : Int) ≤ x205))
      k0 x206)
theorem slices_ContainsFunc_impl_Pair_impl_Pair__impl_BoxOk_1.ex : ∃ f : ((α : Type) → Nat → List (Int × Int × Unit) → Int → (Bool → Option α) → Option α), f = fun α => @slices_ContainsFunc_impl_Pair_impl_Pair__impl_BoxOk_1.b α := ⟨_, rfl⟩
noncomputable def slices_ContainsFunc_impl_Pair_impl_Pair__impl_BoxOk_1 {α : Type} : Nat → List (Int × Int × Unit) → Int → (Bool → Option α) → Option α := Classical.choose slices_ContainsFunc_impl_Pair_impl_Pair__impl_BoxOk_1.ex α
theorem slices_ContainsFunc_impl_Pair_impl_Pair__impl_BoxOk_1.eq : @slices_ContainsFunc_impl_Pair_impl_Pair__impl_BoxOk_1 = @slices_ContainsFunc_impl_Pair_impl_Pair__impl_BoxOk_1.b := funext fun α => congrFun (Classical.choose_spec slices_ContainsFunc_impl_Pair_impl_Pair__impl_BoxOk_1.ex) α

/-- loop.example/pinfold/impl.BoxOk -/
noncomputable def impl_BoxOk.b {α : Type} (N : Nat) (a157 : Int) (a158 : (List (Int × Int × Unit)) × Unit) (k0 : Bool → Option α) : Option α :=
  let x159 := ((a158.1.length : Nat) : Int)
  impl_in N x159 (1 : Int) (6 : Int)
    (fun x165 =>
      bif x165 then
        slices_ContainsFunc_impl_Pair_impl_Pair__impl_BoxOk_1 N a158.1 a157
          (fun x207 =>
            let x208 := !x207
            k0 x208)
      else
        k0 false)
theorem impl_BoxOk.ex : ∃ f : ((α : Type) → Nat → Int → ((List (Int × Int × Unit)) × Unit) → (Bool → Option α) → Option α), f = fun α => @impl_BoxOk.b α := ⟨_, rfl⟩
noncomputable def impl_BoxOk {α : Type} : Nat → Int → ((List (Int × Int × Unit)) × Unit) → (Bool → Option α) → Option α := Classical.choose impl_BoxOk.ex α
theorem impl_BoxOk.eq : @impl_BoxOk = @impl_BoxOk.b := funext fun α => congrFun (Classical.choose_spec impl_BoxOk.ex) α

/-- loop.example/pinfold/impl.BitGap -/
noncomputable def impl_BitGap.b {α : Type} (N : Nat) (a230 : Int) (a231 : Int) (k0 : Int → Option α) : Option α :=
  let x232 := decide (a231 < a230)
  bif x232 then
    k0 (0 : Int)
  else
    let x233 := IntKind.u64.wrap a231
    let x234 := IntKind.u64.wrap a230
    let x235 := IntKind.u64.wrap (x233 - x234)
    k0 x235
theorem impl_BitGap.ex : ∃ f : ((α : Type) → Nat → Int → Int → (Int → Option α) → Option α), f = fun α => @impl_BitGap.b α := ⟨_, rfl⟩
noncomputable def impl_BitGap {α : Type} : Nat → Int → Int → (Int → Option α) → Option α := Classical.choose impl_BitGap.ex α
theorem impl_BitGap.eq : @impl_BitGap = @impl_BitGap.b := funext fun α => congrFun (Classical.choose_spec impl_BitGap.ex) α

/-- (loop.example/pinfold/impl.Pair).steps -/
noncomputable def impl_Pair_steps.b {α : Type} (N : Nat) (a229 : Int × Int × Unit) (k0 : Int → Option α) : Option α :=
  impl_BitGap N a229.1 a229.2.1
    (fun x236 =>
      k0 x236)
theorem impl_Pair_steps.ex : ∃ f : ((α : Type) → Nat → (Int × Int × Unit) → (Int → Option α) → Option α), f = fun α => @impl_Pair_steps.b α := ⟨_, rfl⟩
noncomputable def impl_Pair_steps {α : Type} : Nat → (Int × Int × Unit) → (Int → Option α) → Option α := Classical.choose impl_Pair_steps.ex α
theorem impl_Pair_steps.eq : @impl_Pair_steps = @impl_Pair_steps.b := funext fun α => congrFun (Classical.choose_spec impl_Pair_steps.ex) α

/-- loop.example/pinfold/impl.PairCut -/
noncomputable def impl_PairCut.b {α : Type} (N : Nat) (a219 : Int) (a220 : Int × Int × Unit) (a221 : Int × Int × Unit) (k0 : (Int × Int × Unit) → (Int × Int × Unit) → Bool → Option α) : Option α :=
  impl_PairOk N a219 a220
    (fun x222 =>
      let x223 := !x222
      bif x223 then
        k0 ((0 : Int), ((0 : Int), ())) ((0 : Int), ((0 : Int), ())) false
      else
        let x224 := decide (a221.2.1 ≤ a221.1)
        bif x224 then
          k0 ((0 : Int), ((0 : Int), ())) ((0 : Int), ((0 : Int), ())) false
        else
          impl_PairOk N a219 (a220.1, (a221.1, ()))
            (fun x225 =>
              let x226 := !x225
              bif x226 then
                k0 ((0 : Int), ((0 : Int), ())) ((0 : Int), ((0 : Int), ())) false
              else
                impl_PairOk N a219 (a221.2.1, (a220.2.1, ()))
                  (fun x227 =>
                    let x228 := !x227
                    bif x228 then
                      k0 ((0 : Int), ((0 : Int), ())) ((0 : Int), ((0 : Int), ())) false
                    else
                      impl_Pair_steps N (a221.2.1, (a220.2.1, ()))
                        (fun x237 =>
                          impl_Pair_steps N (a220.1, (a221.1, ()))
                            (fun x238 =>
                              let x239 := decide (x237 < x238)
                              bif x239 then
                                k0 (a221.2.1, (a220.2.1, ())) (a220.1, (a221.1, ())) true
                              else
                                k0 (a220.1, (a221.1, ())) (a221.2.1, (a220.2.1, ())) true)))))
theorem impl_PairCut.ex : ∃ f : ((α : Type) → Nat → Int → (Int × Int × Unit) → (Int × Int × Unit) → ((Int × Int × Unit) → (Int × Int × Unit) → Bool → Option α) → Option α), f = fun α => @impl_PairCut.b α := ⟨_, rfl⟩
noncomputable def impl_PairCut {α : Type} : Nat → Int → (Int × Int × Unit) → (Int × Int × Unit) → ((Int × Int × Unit) → (Int × Int × Unit) → Bool → Option α) → Option α := Classical.choose impl_PairCut.ex α
theorem impl_PairCut.eq : @impl_PairCut = @impl_PairCut.b := funext fun α => congrFun (Classical.choose_spec impl_PairCut.ex) α

/-- loop.example/pinfold/impl.BoxCut$1 -/
noncomputable def impl_BoxCut_1.b {α : Type} (N : Nat) (a216 : Int × Int × Unit) (a217 : Int) (a218 : Int × Int × Unit) (k0 : (Int × Int × Unit) → (Int × Int × Unit) → Bool → Option α) : Option α :=
  impl_PairCut N a217 a216 a218
    (fun x240 x241 x242 =>
      k0 x240 x241 x242)
theorem impl_BoxCut_1.ex : ∃ f : ((α : Type) → Nat → (Int × Int × Unit) → Int → (Int × Int × Unit) → ((Int × Int × Unit) → (Int × Int × Unit) → Bool → Option α) → Option α), f = fun α => @impl_BoxCut_1.b α := ⟨_, rfl⟩
noncomputable def impl_BoxCut_1 {α : Type} : Nat → (Int × Int × Unit) → Int → (Int × Int × Unit) → ((Int × Int × Unit) → (Int × Int × Unit) → Bool → Option α) → Option α := Classical.choose impl_BoxCut_1.ex α
theorem impl_BoxCut_1.eq : @impl_BoxCut_1 = @impl_BoxCut_1.b := funext fun α => congrFun (Classical.choose_spec impl_BoxCut_1.ex) α

/-- slices.Clone[[]loop.example/pinfold/impl.Pair,loop.example/pinfold/impl.Pair] -/
noncomputable def slices_Clone_impl_Pair_impl_Pair {α : Type} (N : Nat) (a1 : List (Int × Int × Unit)) (k0 : List (Int × Int × Unit) → Option α) : Option α :=
  bif decide (([] : List (Int × Int × Unit)).length + a1.length ≤ 8796093022208) then k0 a1 else none

/-- slices.Clip[[]loop.example/pinfold/impl.Pair,loop.example/pinfold/impl.Pair] -/
noncomputable def slices_Clip_impl_Pair_impl_Pair.b {α : Type} (N : Nat) (a252 : List (Int × Int × Unit)) (k0 : List (Int × Int × Unit) → Option α) : Option α :=
  let x253 := ((a252.length : Nat) : Int)
  let x254 := ((a252.length : Nat) : Int)
  bif (decide ((0 : Int) ≤ x254)) then
    bif (decide (x254 ≤ ((a252.length : Nat) : Int))) then
      bif (decide ((0 : Int) ≤ x253)) then
        bif (decide (x253 ≤ ((x254.toNat : Nat) : Int))) then
          let x255 := a252.take x253.toNat
          k0 x255
        else
          none
      else
        none
    else
      none
  else
    none
theorem slices_Clip_impl_Pair_impl_Pair.ex : ∃ f : ((α : Type) → Nat → List (Int × Int × Unit) → (List (Int × Int × Unit) → Option α) → Option α), f = fun α => @slices_Clip_impl_Pair_impl_Pair.b α := ⟨_, rfl⟩
noncomputable def slices_Clip_impl_Pair_impl_Pair {α : Type} : Nat → List (Int × Int × Unit) → (List (Int × Int × Unit) → Option α) → Option α := Classical.choose slices_Clip_impl_Pair_impl_Pair.ex α
theorem slices_Clip_impl_Pair_impl_Pair.eq : @slices_Clip_impl_Pair_impl_Pair = @slices_Clip_impl_Pair_impl_Pair.b := funext fun α => congrFun (Classical.choose_spec slices_Clip_impl_Pair_impl_Pair.ex) α

/-- loop.example/pinfold/impl.clone[loop.example/pinfold/impl.Pair] -/
noncomputable def impl_clone_impl_Pair.b {α : Type} (N : Nat) (a250 : List (Int × Int × Unit)) (k0 : List (Int × Int × Unit) → Option α) : Option α :=
  slices_Clone_impl_Pair_impl_Pair N a250
    (fun x251 =>
      slices_Clip_impl_Pair_impl_Pair N x251
        (fun x256 =>
          k0 x256))
theorem impl_clone_impl_Pair.ex : ∃ f : ((α : Type) → Nat → List (Int × Int × Unit) → (List (Int × Int × Unit) → Option α) → Option α), f = fun α => @impl_clone_impl_Pair.b α := ⟨_, rfl⟩
noncomputable def impl_clone_impl_Pair {α : Type} : Nat → List (Int × Int × Unit) → (List (Int × Int × Unit) → Option α) → Option α := Classical.choose impl_clone_impl_Pair.ex α
theorem impl_clone_impl_Pair.eq : @impl_clone_impl_Pair = @impl_clone_impl_Pair.b := funext fun α => congrFun (Classical.choose_spec impl_clone_impl_Pair.ex) α

/-- (loop.example/pinfold/impl.Box).with -/
noncomputable def impl_Box_with.b {α : Type} (N : Nat) (a247 : (List (Int × Int × Unit)) × Unit) (a248 : Int) (a249 : Int × Int × Unit) (k0 : List (Int × Int × Unit) → Option α) : Option α :=
  impl_clone_impl_Pair N a247.1
    (fun x257 =>
      bif (decide (a248 < (0 : Int))) then
        none
      else
        bif decide (a248.toNat < x257.length) then
          match x257[a248.toNat]? with
          | some x258 =>
            let x259 := x257.set a248.toNat a249
            k0 x259
          | none => none
        else
          none)
theorem impl_Box_with.ex : ∃ f : ((α : Type) → Nat → ((List (Int × Int × Unit)) × Unit) → Int → (Int × Int × Unit) → (List (Int × Int × Unit) → Option α) → Option α), f = fun α => @impl_Box_with.b α := ⟨_, rfl⟩
noncomputable def impl_Box_with {α : Type} : Nat → ((List (Int × Int × Unit)) × Unit) → Int → (Int × Int × Unit) → (List (Int × Int × Unit) → Option α) → Option α := Classical.choose impl_Box_with.ex α
theorem impl_Box_with.eq : @impl_Box_with = @impl_Box_with.b := funext fun α => congrFun (Classical.choose_spec impl_Box_with.ex) α

/-- (loop.example/pinfold/impl.Box).parts -/
noncomputable def impl_Box_parts__impl_BoxCut_1.b {α : Type} (N : Nat) (a152 : (List (Int × Int × Unit)) × Unit) (a153 : Int) (a154 : Int) (a155 : Int) (a156 : Int × Int × Unit) (k0 : Bool → List (Int × Int × Unit) → List (Int × Int × Unit) → Option α) : Option α :=
  impl_BoxOk N a153 a152
    (fun x209 =>
      let x210 := !x209
      bif x210 then
        k0 false [] []
      else
        let x211 := ((a152.1.length : Nat) : Int)
        let x212 := (IntKind.i64.wrap (x211 - (1 : Int)))
        impl_in N a154 (0 : Int) x212
          (fun x213 =>
            let x214 := !x213
            bif x214 then
              k0 false [] []
            else
              bif (decide (a154 < (0 : Int))) then
                none
              else
                match a152.1[a154.toNat]? with
                | some x215 =>
                  impl_BoxCut_1 N x215 a155 a156
                    (fun x243 x244 x245 =>
                      let x246 := !x245
                      bif x246 then
                        k0 false [] []
                      else
                        impl_Box_with N a152 a154 x243
                          (fun x260 =>
                            impl_Box_with N a152 a154 x244
                              (fun x261 =>
                                k0 true x260 x261)))
                | none => none))
theorem impl_Box_parts__impl_BoxCut_1.ex : ∃ f : ((α : Type) → Nat → ((List (Int × Int × Unit)) × Unit) → Int → Int → Int → (Int × Int × Unit) → (Bool → List (Int × Int × Unit) → List (Int × Int × Unit) → Option α) → Option α), f = fun α => @impl_Box_parts__impl_BoxCut_1.b α := ⟨_, rfl⟩
noncomputable def impl_Box_parts__impl_BoxCut_1 {α : Type} : Nat → ((List (Int × Int × Unit)) × Unit) → Int → Int → Int → (Int × Int × Unit) → (Bool → List (Int × Int × Unit) → List (Int × Int × Unit) → Option α) → Option α := Classical.choose impl_Box_parts__impl_BoxCut_1.ex α
theorem impl_Box_parts__impl_BoxCut_1.eq : @impl_Box_parts__impl_BoxCut_1 = @impl_Box_parts__impl_BoxCut_1.b := funext fun α => congrFun (Classical.choose_spec impl_Box_parts__impl_BoxCut_1.ex) α

/-- loop.example/pinfold/impl.BoxCut -/
noncomputable def impl_BoxCut.b {α : Type} (N : Nat) (a148 : Int) (a149 : (List (Int × Int × Unit)) × Unit) (a150 : Int) (a151 : Int × Int × Unit) (k0 : Bool → List (Int × Int × Unit) → List (Int × Int × Unit) → Option α) : Option α :=
  impl_Box_parts__impl_BoxCut_1 N a149 a148 a150 a148 a151
    (fun x262 x263 x264 =>
      k0 x262 x263 x264)
theorem impl_BoxCut.ex : ∃ f : ((α : Type) → Nat → Int → ((List (Int × Int × Unit)) × Unit) → Int → (Int × Int × Unit) → (Bool → List (Int × Int × Unit) → List (Int × Int × Unit) → Option α) → Option α), f = fun α => @impl_BoxCut.b α := ⟨_, rfl⟩
noncomputable def impl_BoxCut {α : Type} : Nat → Int → ((List (Int × Int × Unit)) × Unit) → Int → (Int × Int × Unit) → (Bool → List (Int × Int × Unit) → List (Int × Int × Unit) → Option α) → Option α := Classical.choose impl_BoxCut.ex α
theorem impl_BoxCut.eq : @impl_BoxCut = @impl_BoxCut.b := funext fun α => congrFun (Classical.choose_spec impl_BoxCut.ex) α

/-- loop.example/pinfold/laws.eqPair -/
noncomputable def laws_eqPair.b {α : Type} (N : Nat) (a282 : Int × Int × Unit) (a283 : Int × Int × Unit) (k0 : Bool → Option α) : Option α :=
  let x284 := !(decide (a282.1 = a283.1))
  bif x284 then
    k0 false
  else
    let x285 := !(decide (a282.2.1 = a283.2.1))
    bif x285 then
      k0 false
    else
      k0 true
theorem laws_eqPair.ex : ∃ f : ((α : Type) → Nat → (Int × Int × Unit) → (Int × Int × Unit) → (Bool → Option α) → Option α), f = fun α => @laws_eqPair.b α := ⟨_, rfl⟩
noncomputable def laws_eqPair {α : Type} : Nat → (Int × Int × Unit) → (Int × Int × Unit) → (Bool → Option α) → Option α := Classical.choose laws_eqPair.ex α
theorem laws_eqPair.eq : @laws_eqPair = @laws_eqPair.b := funext fun α => congrFun (Classical.choose_spec laws_eqPair.ex) α

noncomputable def laws_eqPairS_L0r {α : Type} (N : Nat) (next : List (Int × Int × Unit) → List (Int × Int × Unit) → Int → Option α) (k0 : Bool → Option α) (k1 : Option α) (v275 : List (Int × Int × Unit)) (v276 : List (Int × Int × Unit)) (v277 : Int) : Option α :=
  let x278 := ((v275.length : Nat) : Int)
  let x279 := decide (v277 < x278)
  bif x279 then
    bif (decide (v277 < (0 : Int))) then
      none
    else
      match v275[v277.toNat]? with
      | some x280 =>
        bif (decide (v277 < (0 : Int))) then
          none
        else
          match v276[v277.toNat]? with
          | some x281 =>
            laws_eqPair N x280 x281
              (fun x286 =>
                let x287 := !x286
                bif x287 then
                  k0 false
                else
                  let x288 := (IntKind.i64.wrap (v277 + (1 : Int)))
                  next v275 v276 x288)
          | none => none
      | none => none
  else
    k1
noncomputable def laws_eqPairS_L0.b {α : Type} (N n : Nat) (v275 : List (Int × Int × Unit)) (v276 : List (Int × Int × Unit)) (v277 : Int) (k0 : Bool → Option α) (k1 : Option α) : Option α :=
  Nat.rec (motive := fun _ => List (Int × Int × Unit) → List (Int × Int × Unit) → Int → Option α) (fun _ _ _ => none) (fun _ next => laws_eqPairS_L0r N next k0 k1) n v275 v276 v277
theorem laws_eqPairS_L0.ex : ∃ f : ((α : Type) → Nat → Nat → List (Int × Int × Unit) → List (Int × Int × Unit) → Int → (Bool → Option α) → (Option α) → Option α), f = fun α => @laws_eqPairS_L0.b α := ⟨_, rfl⟩
noncomputable def laws_eqPairS_L0 {α : Type} : Nat → Nat → List (Int × Int × Unit) → List (Int × Int × Unit) → Int → (Bool → Option α) → (Option α) → Option α := Classical.choose laws_eqPairS_L0.ex α
theorem laws_eqPairS_L0.eq : @laws_eqPairS_L0 = @laws_eqPairS_L0.b := funext fun α => congrFun (Classical.choose_spec laws_eqPairS_L0.ex) α
theorem laws_eqPairS_L0.zero {α : Type} (N : Nat) (v275 : List (Int × Int × Unit)) (v276 : List (Int × Int × Unit)) (v277 : Int) (k0 : Bool → Option α) (k1 : Option α) : laws_eqPairS_L0 N 0 v275 v276 v277 k0 k1 = none := by rw [laws_eqPairS_L0.eq]; rfl
theorem laws_eqPairS_L0.succ {α : Type} (N n : Nat) (v275 : List (Int × Int × Unit)) (v276 : List (Int × Int × Unit)) (v277 : Int) (k0 : Bool → Option α) (k1 : Option α) : laws_eqPairS_L0 N (n + 1) v275 v276 v277 k0 k1 = laws_eqPairS_L0r N (fun y0 y1 y2 => laws_eqPairS_L0 N n y0 y1 y2 k0 k1) k0 k1 v275 v276 v277 := by rw [laws_eqPairS_L0.eq]; rfl
/-- loop.example/pinfold/laws.eqPairS -/
noncomputable def laws_eqPairS.b {α : Type} (N : Nat) (a270 : List (Int × Int × Unit)) (a271 : List (Int × Int × Unit)) (k0 : Bool → Option α) : Option α :=
  let x272 := ((a270.length : Nat) : Int)
  let x273 := ((a271.length : Nat) : Int)
  let x274 := !(decide (x272 = x273))
  bif x274 then
    k0 false
  else
    laws_eqPairS_L0 N N a270 a271 (0 : Int)
      (fun x289 =>
        k0 x289)
      (
        k0 true)
theorem laws_eqPairS.ex : ∃ f : ((α : Type) → Nat → List (Int × Int × Unit) → List (Int × Int × Unit) → (Bool → Option α) → Option α), f = fun α => @laws_eqPairS.b α := ⟨_, rfl⟩
noncomputable def laws_eqPairS {α : Type} : Nat → List (Int × Int × Unit) → List (Int × Int × Unit) → (Bool → Option α) → Option α := Classical.choose laws_eqPairS.ex α
theorem laws_eqPairS.eq : @laws_eqPairS = @laws_eqPairS.b := funext fun α => congrFun (Classical.choose_spec laws_eqPairS.ex) α

/-- loop.example/pinfold/laws.eqBox -/
noncomputable def laws_eqBox.b {α : Type} (N : Nat) (a268 : (List (Int × Int × Unit)) × Unit) (a269 : (List (Int × Int × Unit)) × Unit) (k0 : Bool → Option α) : Option α :=
  laws_eqPairS N a268.1 a269.1
    (fun x290 =>
      let x291 := !x290
      bif x291 then
        k0 false
      else
        k0 true)
theorem laws_eqBox.ex : ∃ f : ((α : Type) → Nat → ((List (Int × Int × Unit)) × Unit) → ((List (Int × Int × Unit)) × Unit) → (Bool → Option α) → Option α), f = fun α => @laws_eqBox.b α := ⟨_, rfl⟩
noncomputable def laws_eqBox {α : Type} : Nat → ((List (Int × Int × Unit)) × Unit) → ((List (Int × Int × Unit)) × Unit) → (Bool → Option α) → Option α := Classical.choose laws_eqBox.ex α
theorem laws_eqBox.eq : @laws_eqBox = @laws_eqBox.b := funext fun α => congrFun (Classical.choose_spec laws_eqBox.ex) α

noncomputable def laws_markPairS_L0r {α : Type} (N : Nat) (next : Int → Int → List (Int × Int × Unit) → Option α) (k0 : Int → List (Int × Int × Unit) → Option α) (v304 : Int) (v305 : Int) (v306 : List (Int × Int × Unit)) : Option α :=
  let x307 := ((v306.length : Nat) : Int)
  let x308 := decide (v305 < x307)
  bif x308 then
    bif (decide (v305 < (0 : Int))) then
      none
    else
      bif decide (v305.toNat < v306.length) then
        match v306[v305.toNat]? with
        | some x309 =>
          let x310 := v306.set v305.toNat (v304, (x309.2.1, ()))
          let x311 := (IntKind.i64.wrap (v304 + (1 : Int)))
          bif (decide (v305 < (0 : Int))) then
            none
          else
            bif decide (v305.toNat < x310.length) then
              match x310[v305.toNat]? with
              | some x312 =>
                let x313 := x310.set v305.toNat (x312.1, (x311, ()))
                let x314 := (IntKind.i64.wrap (x311 + (1 : Int)))
                let x315 := (IntKind.i64.wrap (v305 + (1 : Int)))
                next x314 x315 x313
              | none => none
            else
              none
        | none => none
      else
        none
  else
    k0 v304 v306
noncomputable def laws_markPairS_L0.b {α : Type} (N n : Nat) (v304 : Int) (v305 : Int) (v306 : List (Int × Int × Unit)) (k0 : Int → List (Int × Int × Unit) → Option α) : Option α :=
  Nat.rec (motive := fun _ => Int → Int → List (Int × Int × Unit) → Option α) (fun _ _ _ => none) (fun _ next => laws_markPairS_L0r N next k0) n v304 v305 v306
theorem laws_markPairS_L0.ex : ∃ f : ((α : Type) → Nat → Nat → Int → Int → List (Int × Int × Unit) → (Int → List (Int × Int × Unit) → Option α) → Option α), f = fun α => @laws_markPairS_L0.b α := ⟨_, rfl⟩
noncomputable def laws_markPairS_L0 {α : Type} : Nat → Nat → Int → Int → List (Int × Int × Unit) → (Int → List (Int × Int × Unit) → Option α) → Option α := Classical.choose laws_markPairS_L0.ex α
theorem laws_markPairS_L0.eq : @laws_markPairS_L0 = @laws_markPairS_L0.b := funext fun α => congrFun (Classical.choose_spec laws_markPairS_L0.ex) α
theorem laws_markPairS_L0.zero {α : Type} (N : Nat) (v304 : Int) (v305 : Int) (v306 : List (Int × Int × Unit)) (k0 : Int → List (Int × Int × Unit) → Option α) : laws_markPairS_L0 N 0 v304 v305 v306 k0 = none := by rw [laws_markPairS_L0.eq]; rfl
theorem laws_markPairS_L0.succ {α : Type} (N n : Nat) (v304 : Int) (v305 : Int) (v306 : List (Int × Int × Unit)) (k0 : Int → List (Int × Int × Unit) → Option α) : laws_markPairS_L0 N (n + 1) v304 v305 v306 k0 = laws_markPairS_L0r N (fun y0 y1 y2 => laws_markPairS_L0 N n y0 y1 y2 k0) k0 v304 v305 v306 := by rw [laws_markPairS_L0.eq]; rfl
/-- loop.example/pinfold/laws.markPairS -/
noncomputable def laws_markPairS.b {α : Type} (N : Nat) (a302 : Int) (a303 : List (Int × Int × Unit)) (k0 : Int → List (Int × Int × Unit) → Option α) : Option α :=
  laws_markPairS_L0 N N a302 (0 : Int) a303
    (fun x316 x317 =>
      k0 x316 x317)
theorem laws_markPairS.ex : ∃ f : ((α : Type) → Nat → Int → List (Int × Int × Unit) → (Int → List (Int × Int × Unit) → Option α) → Option α), f = fun α => @laws_markPairS.b α := ⟨_, rfl⟩
noncomputable def laws_markPairS {α : Type} : Nat → Int → List (Int × Int × Unit) → (Int → List (Int × Int × Unit) → Option α) → Option α := Classical.choose laws_markPairS.ex α
theorem laws_markPairS.eq : @laws_markPairS = @laws_markPairS.b := funext fun α => congrFun (Classical.choose_spec laws_markPairS.ex) α

/-- loop.example/pinfold/laws.markBox -/
noncomputable def laws_markBox.b {α : Type} (N : Nat) (a300 : Int) (a301 : List (Int × Int × Unit)) (k0 : Int → List (Int × Int × Unit) → Option α) : Option α :=
  laws_markPairS N a300 a301
    (fun x318 x319 =>
      k0 x318 x319)
theorem laws_markBox.ex : ∃ f : ((α : Type) → Nat → Int → List (Int × Int × Unit) → (Int → List (Int × Int × Unit) → Option α) → Option α), f = fun α => @laws_markBox.b α := ⟨_, rfl⟩
noncomputable def laws_markBox {α : Type} : Nat → Int → List (Int × Int × Unit) → (Int → List (Int × Int × Unit) → Option α) → Option α := Classical.choose laws_markBox.ex α
theorem laws_markBox.eq : @laws_markBox = @laws_markBox.b := funext fun α => congrFun (Classical.choose_spec laws_markBox.ex) α

noncomputable def laws_heldPairS_L0r {α : Type} (N : Nat) (next : List (Int × Int × Unit) → Int → Int → Option α) (k0 : Int → Option α) (k1 : Int → Option α) (v336 : List (Int × Int × Unit)) (v337 : Int) (v338 : Int) : Option α :=
  let x339 := ((v336.length : Nat) : Int)
  let x340 := decide (v338 < x339)
  bif x340 then
    bif (decide (v338 < (0 : Int))) then
      none
    else
      match v336[v338.toNat]? with
      | some x341 =>
        let x342 := !(decide (x341.1 = v337))
        bif x342 then
          k0 (-1 : Int)
        else
          let x343 := (IntKind.i64.wrap (v337 + (1 : Int)))
          bif (decide (v338 < (0 : Int))) then
            none
          else
            match v336[v338.toNat]? with
            | some x344 =>
              let x345 := !(decide (x344.2.1 = x343))
              bif x345 then
                k0 (-1 : Int)
              else
                let x346 := (IntKind.i64.wrap (x343 + (1 : Int)))
                let x347 := (IntKind.i64.wrap (v338 + (1 : Int)))
                next v336 x346 x347
            | none => none
      | none => none
  else
    k1 v337
noncomputable def laws_heldPairS_L0.b {α : Type} (N n : Nat) (v336 : List (Int × Int × Unit)) (v337 : Int) (v338 : Int) (k0 : Int → Option α) (k1 : Int → Option α) : Option α :=
  Nat.rec (motive := fun _ => List (Int × Int × Unit) → Int → Int → Option α) (fun _ _ _ => none) (fun _ next => laws_heldPairS_L0r N next k0 k1) n v336 v337 v338
theorem laws_heldPairS_L0.ex : ∃ f : ((α : Type) → Nat → Nat → List (Int × Int × Unit) → Int → Int → (Int → Option α) → (Int → Option α) → Option α), f = fun α => @laws_heldPairS_L0.b α := ⟨_, rfl⟩
noncomputable def laws_heldPairS_L0 {α : Type} : Nat → Nat → List (Int × Int × Unit) → Int → Int → (Int → Option α) → (Int → Option α) → Option α := Classical.choose laws_heldPairS_L0.ex α
theorem laws_heldPairS_L0.eq : @laws_heldPairS_L0 = @laws_heldPairS_L0.b := funext fun α => congrFun (Classical.choose_spec laws_heldPairS_L0.ex) α
theorem laws_heldPairS_L0.zero {α : Type} (N : Nat) (v336 : List (Int × Int × Unit)) (v337 : Int) (v338 : Int) (k0 : Int → Option α) (k1 : Int → Option α) : laws_heldPairS_L0 N 0 v336 v337 v338 k0 k1 = none := by rw [laws_heldPairS_L0.eq]; rfl
theorem laws_heldPairS_L0.succ {α : Type} (N n : Nat) (v336 : List (Int × Int × Unit)) (v337 : Int) (v338 : Int) (k0 : Int → Option α) (k1 : Int → Option α) : laws_heldPairS_L0 N (n + 1) v336 v337 v338 k0 k1 = laws_heldPairS_L0r N (fun y0 y1 y2 => laws_heldPairS_L0 N n y0 y1 y2 k0 k1) k0 k1 v336 v337 v338 := by rw [laws_heldPairS_L0.eq]; rfl
/-- loop.example/pinfold/laws.heldPairS -/
noncomputable def laws_heldPairS.b {α : Type} (N : Nat) (a334 : List (Int × Int × Unit)) (a335 : Int) (k0 : Int → Option α) : Option α :=
  laws_heldPairS_L0 N N a334 a335 (0 : Int)
    (fun x348 =>
      k0 x348)
    (fun x349 =>
      k0 x349)
theorem laws_heldPairS.ex : ∃ f : ((α : Type) → Nat → List (Int × Int × Unit) → Int → (Int → Option α) → Option α), f = fun α => @laws_heldPairS.b α := ⟨_, rfl⟩
noncomputable def laws_heldPairS {α : Type} : Nat → List (Int × Int × Unit) → Int → (Int → Option α) → Option α := Classical.choose laws_heldPairS.ex α
theorem laws_heldPairS.eq : @laws_heldPairS = @laws_heldPairS.b := funext fun α => congrFun (Classical.choose_spec laws_heldPairS.ex) α

/-- loop.example/pinfold/laws.heldBox -/
noncomputable def laws_heldBox.b {α : Type} (N : Nat) (a332 : (List (Int × Int × Unit)) × Unit) (a333 : Int) (k0 : Int → Option α) : Option α :=
  laws_heldPairS N a332.1 a333
    (fun x350 =>
      let x351 := (decide (x350 < (0 : Int)))
      bif x351 then
        k0 (-1 : Int)
      else
        k0 x350)
theorem laws_heldBox.ex : ∃ f : ((α : Type) → Nat → ((List (Int × Int × Unit)) × Unit) → Int → (Int → Option α) → Option α), f = fun α => @laws_heldBox.b α := ⟨_, rfl⟩
noncomputable def laws_heldBox {α : Type} : Nat → ((List (Int × Int × Unit)) × Unit) → Int → (Int → Option α) → Option α := Classical.choose laws_heldBox.ex α
theorem laws_heldBox.eq : @laws_heldBox = @laws_heldBox.b := funext fun α => congrFun (Classical.choose_spec laws_heldBox.ex) α

/-- loop.example/pinfold/laws.FnExactBoxCut -/
noncomputable def laws_FnExactBoxCut.b {α : Type} (N : Nat) (a1 : Int) (a2 : (List (Int × Int × Unit)) × Unit) (a3 : Int) (a4 : Int × Int × Unit) (k0 : Bool → Option α) : Option α :=
  laws_szBox N a2 (1048576 : Int)
    (fun x14 =>
      let x15 := (decide (x14 < (0 : Int)))
      bif x15 then
        k0 true
      else
        laws_toBox N a2
          (fun x33 =>
            laws_toPair N a4
              (fun x34 =>
                spec_BoxCut N a1 (x33, ()) a3 x34
                  (fun x143 x144 x145 =>
                    laws_toBox N a2
                      (fun x146 =>
                        laws_toPair N a4
                          (fun x147 =>
                            impl_BoxCut N a1 (x146, ()) a3 x147
                              (fun x265 x266 x267 =>
                                laws_eqBox N (x266, ()) x143
                                  (fun x292 =>
                                    let x293 := !x292
                                    bif x293 then
                                      k0 false
                                    else
                                      laws_eqBox N (x267, ()) x144
                                        (fun x294 =>
                                          let x295 := !x294
                                          bif x295 then
                                            k0 false
                                          else
                                            let x296 := !(x265 == x145)
                                            bif x296 then
                                              k0 false
                                            else
                                              laws_toBox N a2
                                                (fun x297 =>
                                                  laws_eqBox N (x146, ()) (x297, ())
                                                    (fun x298 =>
                                                      let x299 := !x298
                                                      bif x299 then
                                                        k0 false
                                                      else
                                                        laws_markBox N (1 : Int) x146
                                                          (fun x320 _ =>
                                                            let x322 := (decide (x320 < (0 : Int)))
                                                            bif x322 then
                                                              k0 false
                                                            else
                                                              laws_eqBox N (x266, ()) x143
                                                                (fun x323 =>
                                                                  let x324 := !x323
                                                                  bif x324 then
                                                                    k0 false
                                                                  else
                                                                    laws_eqBox N (x267, ()) x144
                                                                      (fun x325 =>
                                                                        let x326 := !x325
                                                                        bif x326 then
                                                                          k0 false
                                                                        else
                                                                          let x327 := !(x265 == x145)
                                                                          bif x327 then
                                                                            k0 false
                                                                          else
                                                                            laws_markBox N (1 : Int) x266
                                                                              (fun x328 x329 =>
                                                                                laws_markBox N x328 x267
                                                                                  (fun x330 x331 =>
                                                                                    laws_heldBox N (x329, ()) (1 : Int)
                                                                                      (fun x352 =>
                                                                                        let x353 := (decide (x352 < (0 : Int)))
                                                                                        bif x353 then
                                                                                          k0 false
                                                                                        else
                                                                                          laws_heldBox N (x331, ()) x352
                                                                                            (fun x354 =>
                                                                                              let x355 := (decide (x354 < (0 : Int)))
                                                                                              bif x355 then
                                                                                                k0 false
                                                                                              else
                                                                                                let x356 := !(decide (x354 = x330))
                                                                                                bif x356 then
                                                                                                  k0 false
                                                                                                else
                                                                                                  laws_toBox N a2
                                                                                                    (fun x357 =>
                                                                                                      laws_toPair N a4
                                                                                                        (fun x358 =>
                                                                                                          impl_BoxCut N a1 (x357, ()) a3 x358
                                                                                                            (fun x359 x360 x361 =>
                                                                                                              laws_eqBox N (x360, ()) x143
                                                                                                                (fun x362 =>
                                                                                                                  let x363 := !x362
                                                                                                                  bif x363 then
                                                                                                                    k0 false
                                                                                                                  else
                                                                                                                    laws_eqBox N (x361, ()) x144
                                                                                                                      (fun x364 =>
                                                                                                                        let x365 := !x364
                                                                                                                        bif x365 then
                                                                                                                          k0 false
                                                                                                                        else
                                                                                                                          let x366 := !(x359 == x145)
                                                                                                                          bif x366 then
                                                                                                                            k0 false
                                                                                                                          else
                                                                                                                            laws_heldBox N (x329, ()) (1 : Int)
                                                                                                                              (fun x367 =>
                                                                                                                                let x368 := (decide (x367 < (0 : Int)))
                                                                                                                                bif x368 then
                                                                                                                                  k0 false
                                                                                                                                else
                                                                                                                                  laws_heldBox N (x331, ()) x367
                                                                                                                                    (fun x369 =>
                                                                                                                                      let x370 := (decide (x369 < (0 : Int)))
                                                                                                                                      bif x370 then
                                                                                                                                        k0 false
                                                                                                                                      else
                                                                                                                                        let x371 := !(decide (x369 = x330))
                                                                                                                                        bif x371 then
                                                                                                                                          k0 false
                                                                                                                                        else
                                                                                                                                          k0 true)))))))))))))))))))))))))
theorem laws_FnExactBoxCut.ex : ∃ f : ((α : Type) → Nat → Int → ((List (Int × Int × Unit)) × Unit) → Int → (Int × Int × Unit) → (Bool → Option α) → Option α), f = fun α => @laws_FnExactBoxCut.b α := ⟨_, rfl⟩
noncomputable def laws_FnExactBoxCut {α : Type} : Nat → Int → ((List (Int × Int × Unit)) × Unit) → Int → (Int × Int × Unit) → (Bool → Option α) → Option α := Classical.choose laws_FnExactBoxCut.ex α
theorem laws_FnExactBoxCut.eq : @laws_FnExactBoxCut = @laws_FnExactBoxCut.b := funext fun α => congrFun (Classical.choose_spec laws_FnExactBoxCut.ex) α

end
end Go.Proofs.YtaelbfbplamahaaAm
