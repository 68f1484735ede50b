/-
  The functions that the program computes, as the abstract machine tells them. Printed by amp.py.
-/
import Derived.Test.YtaelbfbplamahaaAmb
namespace Go.Proofs.YtaelbfbplamahaaAm
open Go
noncomputable section
set_option linter.unusedVariables false
set_option linter.unusedSimpArgs false

/-- loop.example/pinfold/laws.szPairS -/
noncomputable def laws_szPairS.b {α : Type} (N : Nat) (a6 : List (Int × Int × Unit)) (a7 : Int) (k0 : Int → Option α) : Option α :=
  let x8 := ((a6.length : Nat) : Int)
  let x9 := IntKind.i64.wrap (a7 - x8)
  let x10 := (decide (x9 < (0 : Int)))
  bif x10 then
    k0 (-1 : Int)
  else
    k0 x9
theorem laws_szPairS.ex : ∃ f : ((α : Type) → Nat → List (Int × Int × Unit) → Int → (Int → Option α) → Option α), f = fun α => @laws_szPairS.b α := ⟨_, rfl⟩
noncomputable def laws_szPairS {α : Type} : Nat → List (Int × Int × Unit) → Int → (Int → Option α) → Option α := Classical.choose laws_szPairS.ex α
theorem laws_szPairS.eq : @laws_szPairS = @laws_szPairS.b := funext fun α => congrFun (Classical.choose_spec laws_szPairS.ex) α

/-- loop.example/pinfold/laws.szBox -/
noncomputable def laws_szBox.b {α : Type} (N : Nat) (a4 : (List (Int × Int × Unit)) × Unit) (a5 : Int) (k0 : Int → Option α) : Option α :=
  laws_szPairS N a4.1 a5
    (fun x11 =>
      let x12 := (decide (x11 < (0 : Int)))
      bif x12 then
        k0 (-1 : Int)
      else
        k0 x11)
theorem laws_szBox.ex : ∃ f : ((α : Type) → Nat → ((List (Int × Int × Unit)) × Unit) → Int → (Int → Option α) → Option α), f = fun α => @laws_szBox.b α := ⟨_, rfl⟩
noncomputable def laws_szBox {α : Type} : Nat → ((List (Int × Int × Unit)) × Unit) → Int → (Int → Option α) → Option α := Classical.choose laws_szBox.ex α
theorem laws_szBox.eq : @laws_szBox = @laws_szBox.b := funext fun α => congrFun (Classical.choose_spec laws_szBox.ex) α

/-- loop.example/pinfold/laws.toPair -/
noncomputable def laws_toPair.b {α : Type} (N : Nat) (a25 : Int × Int × Unit) (k0 : (Int × Int × Unit) → Option α) : Option α :=
  k0 (a25.1, (a25.2.1, ()))
theorem laws_toPair.ex : ∃ f : ((α : Type) → Nat → (Int × Int × Unit) → ((Int × Int × Unit) → Option α) → Option α), f = fun α => @laws_toPair.b α := ⟨_, rfl⟩
noncomputable def laws_toPair {α : Type} : Nat → (Int × Int × Unit) → ((Int × Int × Unit) → Option α) → Option α := Classical.choose laws_toPair.ex α
theorem laws_toPair.eq : @laws_toPair = @laws_toPair.b := funext fun α => congrFun (Classical.choose_spec laws_toPair.ex) α

noncomputable def laws_toPairS_L0r {α : Type} (N : Nat) (next : List (Int × Int × Unit) → Int → List (Int × Int × Unit) → Option α) (k0 : List (Int × Int × Unit) → Option α) (v19 : List (Int × Int × Unit)) (v20 : Int) (v21 : List (Int × Int × Unit)) : Option α :=
  let x22 := ((v19.length : Nat) : Int)
  let x23 := decide (v20 < x22)
  bif x23 then
    bif (decide (v20 < (0 : Int))) then
      none
    else
      match v19[v20.toNat]? with
      | some x24 =>
        laws_toPair N x24
          (fun x26 =>
            bif (decide (v20 < (0 : Int))) then
              none
            else
              bif decide (v20.toNat < v21.length) then
                match v21[v20.toNat]? with
                | some x27 =>
                  let x28 := v21.set v20.toNat x26
                  let x29 := (IntKind.i64.wrap (v20 + (1 : Int)))
                  next v19 x29 x28
                | none => none
              else
                none)
      | none => none
  else
    k0 v21
noncomputable def laws_toPairS_L0.b {α : Type} (N n : Nat) (v19 : List (Int × Int × Unit)) (v20 : Int) (v21 : List (Int × Int × Unit)) (k0 : List (Int × Int × Unit) → Option α) : Option α :=
  Nat.rec (motive := fun _ => List (Int × Int × Unit) → Int → List (Int × Int × Unit) → Option α) (fun _ _ _ => none) (fun _ next => laws_toPairS_L0r N next k0) n v19 v20 v21
theorem laws_toPairS_L0.ex : ∃ f : ((α : Type) → Nat → Nat → List (Int × Int × Unit) → Int → List (Int × Int × Unit) → (List (Int × Int × Unit) → Option α) → Option α), f = fun α => @laws_toPairS_L0.b α := ⟨_, rfl⟩
noncomputable def laws_toPairS_L0 {α : Type} : Nat → Nat → List (Int × Int × Unit) → Int → List (Int × Int × Unit) → (List (Int × Int × Unit) → Option α) → Option α := Classical.choose laws_toPairS_L0.ex α
theorem laws_toPairS_L0.eq : @laws_toPairS_L0 = @laws_toPairS_L0.b := funext fun α => congrFun (Classical.choose_spec laws_toPairS_L0.ex) α
theorem laws_toPairS_L0.zero {α : Type} (N : Nat) (v19 : List (Int × Int × Unit)) (v20 : Int) (v21 : List (Int × Int × Unit)) (k0 : List (Int × Int × Unit) → Option α) : laws_toPairS_L0 N 0 v19 v20 v21 k0 = none := by rw [laws_toPairS_L0.eq]; rfl
theorem laws_toPairS_L0.succ {α : Type} (N n : Nat) (v19 : List (Int × Int × Unit)) (v20 : Int) (v21 : List (Int × Int × Unit)) (k0 : List (Int × Int × Unit) → Option α) : laws_toPairS_L0 N (n + 1) v19 v20 v21 k0 = laws_toPairS_L0r N (fun y0 y1 y2 => laws_toPairS_L0 N n y0 y1 y2 k0) k0 v19 v20 v21 := by rw [laws_toPairS_L0.eq]; rfl
/-- loop.example/pinfold/laws.toPairS -/
noncomputable def laws_toPairS.b {α : Type} (N : Nat) (a16 : List (Int × Int × Unit)) (k0 : List (Int × Int × Unit) → Option α) : Option α :=
  let x17 := ((a16.length : Nat) : Int)
  bif (decide ((0 : Int) ≤ x17)) then
    bif decide (x17 ≤ x17) then
      bif (decide (x17 ≤ ((8796093022208 : Nat) : Int))) then
        let x18 := (List.replicate x17.toNat ((0 : Int), ((0 : Int), ())))
        laws_toPairS_L0 N N a16 (0 : Int) x18
          (fun x30 =>
            k0 x30)
      else
        none
    else
      none
  else
    none
theorem laws_toPairS.ex : ∃ f : ((α : Type) → Nat → List (Int × Int × Unit) → (List (Int × Int × Unit) → Option α) → Option α), f = fun α => @laws_toPairS.b α := ⟨_, rfl⟩
noncomputable def laws_toPairS {α : Type} : Nat → List (Int × Int × Unit) → (List (Int × Int × Unit) → Option α) → Option α := Classical.choose laws_toPairS.ex α
theorem laws_toPairS.eq : @laws_toPairS = @laws_toPairS.b := funext fun α => congrFun (Classical.choose_spec laws_toPairS.ex) α

/-- loop.example/pinfold/laws.toBox -/
noncomputable def laws_toBox.b {α : Type} (N : Nat) (a15 : (List (Int × Int × Unit)) × Unit) (k0 : List (Int × Int × Unit) → Option α) : Option α :=
  laws_toPairS N a15.1
    (fun x31 =>
      k0 x31)
theorem laws_toBox.ex : ∃ f : ((α : Type) → Nat → ((List (Int × Int × Unit)) × Unit) → (List (Int × Int × Unit) → Option α) → Option α), f = fun α => @laws_toBox.b α := ⟨_, rfl⟩
noncomputable def laws_toBox {α : Type} : Nat → ((List (Int × Int × Unit)) × Unit) → (List (Int × Int × Unit) → Option α) → Option α := Classical.choose laws_toBox.ex α
theorem laws_toBox.eq : @laws_toBox = @laws_toBox.b := funext fun α => congrFun (Classical.choose_spec laws_toBox.ex) α

/-- loop.example/pinfold/spec.BitTop -/
noncomputable def spec_BitTop.b {α : Type} (N : Nat) (a50 : Int) (k0 : Int → Option α) : Option α :=
  let x51 := (decide (a50 = (32 : Int)))
  bif x51 then
    k0 (2139095040 : Int)
  else
    let x52 := (decide (a50 = (64 : Int)))
    bif x52 then
      k0 (9218868437227405312 : Int)
    else
      k0 (0 : Int)
theorem spec_BitTop.ex : ∃ f : ((α : Type) → Nat → Int → (Int → Option α) → Option α), f = fun α => @spec_BitTop.b α := ⟨_, rfl⟩
noncomputable def spec_BitTop {α : Type} : Nat → Int → (Int → Option α) → Option α := Classical.choose spec_BitTop.ex α
theorem spec_BitTop.eq : @spec_BitTop = @spec_BitTop.b := funext fun α => congrFun (Classical.choose_spec spec_BitTop.ex) α

/-- loop.example/pinfold/spec.l1Width -/
noncomputable def spec_l1Width.b {α : Type} (N : Nat) (a56 : Int) (k0 : Bool → Option α) : Option α :=
  let x57 := (decide (a56 = (32 : Int)))
  bif x57 then
    k0 true
  else
    let x58 := (decide (a56 = (64 : Int)))
    k0 x58
theorem spec_l1Width.ex : ∃ f : ((α : Type) → Nat → Int → (Bool → Option α) → Option α), f = fun α => @spec_l1Width.b α := ⟨_, rfl⟩
noncomputable def spec_l1Width {α : Type} : Nat → Int → (Bool → Option α) → Option α := Classical.choose spec_l1Width.ex α
theorem spec_l1Width.eq : @spec_l1Width = @spec_l1Width.b := funext fun α => congrFun (Classical.choose_spec spec_l1Width.ex) α

/-- loop.example/pinfold/spec.BitOk -/
noncomputable def spec_BitOk.b {α : Type} (N : Nat) (a54 : Int) (a55 : Int) (k0 : Bool → Option α) : Option α :=
  spec_l1Width N a54
    (fun x59 =>
      bif x59 then
        spec_BitTop N a54
          (fun x60 =>
            let x61 := IntKind.i64.wrap (0 - x60)
            let x62 := decide (x61 ≤ a55)
            bif x62 then
              spec_BitTop N a54
                (fun x63 =>
                  let x64 := decide (a55 ≤ x63)
                  k0 x64)
            else
              k0 false)
      else
        k0 false)
theorem spec_BitOk.ex : ∃ f : ((α : Type) → Nat → Int → Int → (Bool → Option α) → Option α), f = fun α => @spec_BitOk.b α := ⟨_, rfl⟩
noncomputable def spec_BitOk {α : Type} : Nat → Int → Int → (Bool → Option α) → Option α := Classical.choose spec_BitOk.ex α
theorem spec_BitOk.eq : @spec_BitOk = @spec_BitOk.b := funext fun α => congrFun (Classical.choose_spec spec_BitOk.ex) α

/-- loop.example/pinfold/spec.PairOk -/
noncomputable def spec_PairOk.b {α : Type} (N : Nat) (a48 : Int) (a49 : Int × Int × Unit) (k0 : Bool → Option α) : Option α :=
  spec_BitTop N a48
    (fun x53 =>
      spec_BitOk N a48 a49.1
        (fun x65 =>
          bif x65 then
            spec_BitOk N a48 a49.2.1
              (fun x66 =>
                bif x66 then
                  let x67 := decide (a49.1 ≤ a49.2.1)
                  bif x67 then
                    let x68 := decide (a49.1 < x53)
                    bif x68 then
                      let x69 := IntKind.i64.wrap (0 - x53)
                      let x70 := decide (x69 < a49.2.1)
                      k0 x70
                    else
                      k0 false
                  else
                    k0 false
                else
                  k0 false)
          else
            k0 false))
theorem spec_PairOk.ex : ∃ f : ((α : Type) → Nat → Int → (Int × Int × Unit) → (Bool → Option α) → Option α), f = fun α => @spec_PairOk.b α := ⟨_, rfl⟩
noncomputable def spec_PairOk {α : Type} : Nat → Int → (Int × Int × Unit) → (Bool → Option α) → Option α := Classical.choose spec_PairOk.ex α
theorem spec_PairOk.eq : @spec_PairOk = @spec_PairOk.b := funext fun α => congrFun (Classical.choose_spec spec_PairOk.ex) α

noncomputable def spec_BoxOk_L0r {α : Type} (N : Nat) (next : Int → Int → ((List (Int × Int × Unit)) × Unit) → Option α) (k0 : Bool → Option α) (k1 : Option α) (v42 : Int) (v43 : Int) (v44 : (List (Int × Int × Unit)) × Unit) : Option α :=
  let x45 := ((v44.1.length : Nat) : Int)
  let x46 := decide (v43 < x45)
  bif x46 then
    bif (decide (v43 < (0 : Int))) then
      none
    else
      match v44.1[v43.toNat]? with
      | some x47 =>
        spec_PairOk N v42 x47
          (fun x71 =>
            let x72 := !x71
            bif x72 then
              k0 false
            else
              let x73 := (IntKind.i64.wrap (v43 + (1 : Int)))
              next v42 x73 v44)
      | none => none
  else
    k1
noncomputable def spec_BoxOk_L0.b {α : Type} (N n : Nat) (v42 : Int) (v43 : Int) (v44 : (List (Int × Int × Unit)) × Unit) (k0 : Bool → Option α) (k1 : Option α) : Option α :=
  Nat.rec (motive := fun _ => Int → Int → ((List (Int × Int × Unit)) × Unit) → Option α) (fun _ _ _ => none) (fun _ next => spec_BoxOk_L0r N next k0 k1) n v42 v43 v44
theorem spec_BoxOk_L0.ex : ∃ f : ((α : Type) → Nat → Nat → Int → Int → ((List (Int × Int × Unit)) × Unit) → (Bool → Option α) → (Option α) → Option α), f = fun α => @spec_BoxOk_L0.b α := ⟨_, rfl⟩
noncomputable def spec_BoxOk_L0 {α : Type} : Nat → Nat → Int → Int → ((List (Int × Int × Unit)) × Unit) → (Bool → Option α) → (Option α) → Option α := Classical.choose spec_BoxOk_L0.ex α
theorem spec_BoxOk_L0.eq : @spec_BoxOk_L0 = @spec_BoxOk_L0.b := funext fun α => congrFun (Classical.choose_spec spec_BoxOk_L0.ex) α
theorem spec_BoxOk_L0.zero {α : Type} (N : Nat) (v42 : Int) (v43 : Int) (v44 : (List (Int × Int × Unit)) × Unit) (k0 : Bool → Option α) (k1 : Option α) : spec_BoxOk_L0 N 0 v42 v43 v44 k0 k1 = none := by rw [spec_BoxOk_L0.eq]; rfl
theorem spec_BoxOk_L0.succ {α : Type} (N n : Nat) (v42 : Int) (v43 : Int) (v44 : (List (Int × Int × Unit)) × Unit) (k0 : Bool → Option α) (k1 : Option α) : spec_BoxOk_L0 N (n + 1) v42 v43 v44 k0 k1 = spec_BoxOk_L0r N (fun y0 y1 y2 => spec_BoxOk_L0 N n y0 y1 y2 k0 k1) k0 k1 v42 v43 v44 := by rw [spec_BoxOk_L0.eq]; rfl
/-- loop.example/pinfold/spec.BoxOk -/
noncomputable def spec_BoxOk.b {α : Type} (N : Nat) (a36 : Int) (a37 : (List (Int × Int × Unit)) × Unit) (k0 : Bool → Option α) : Option α :=
  let x38 := ((a37.1.length : Nat) : Int)
  let x39 := (decide (x38 < (1 : Int)))
  bif x39 then
    k0 false
  else
    let x40 := ((a37.1.length : Nat) : Int)
    let x41 := (decide ((6 : Int) < x40))
    bif x41 then
      k0 false
    else
      spec_BoxOk_L0 N N a36 (0 : Int) a37
        (fun x74 =>
          k0 x74)
        (
          k0 true)
theorem spec_BoxOk.ex : ∃ f : ((α : Type) → Nat → Int → ((List (Int × Int × Unit)) × Unit) → (Bool → Option α) → Option α), f = fun α => @spec_BoxOk.b α := ⟨_, rfl⟩
noncomputable def spec_BoxOk {α : Type} : Nat → Int → ((List (Int × Int × Unit)) × Unit) → (Bool → Option α) → Option α := Classical.choose spec_BoxOk.ex α
theorem spec_BoxOk.eq : @spec_BoxOk = @spec_BoxOk.b := funext fun α => congrFun (Classical.choose_spec spec_BoxOk.ex) α

/-- loop.example/pinfold/spec.BitGap -/
noncomputable def spec_BitGap.b {α : Type} (N : Nat) (a86 : Int) (a87 : Int) (k0 : Int → Option α) : Option α :=
  let x88 := decide (a87 < a86)
  bif x88 then
    k0 (0 : Int)
  else
    let x89 := IntKind.u64.wrap a87
    let x90 := IntKind.u64.wrap a86
    let x91 := IntKind.u64.wrap (x89 - x90)
    k0 x91
theorem spec_BitGap.ex : ∃ f : ((α : Type) → Nat → Int → Int → (Int → Option α) → Option α), f = fun α => @spec_BitGap.b α := ⟨_, rfl⟩
noncomputable def spec_BitGap {α : Type} : Nat → Int → Int → (Int → Option α) → Option α := Classical.choose spec_BitGap.ex α
theorem spec_BitGap.eq : @spec_BitGap = @spec_BitGap.b := funext fun α => congrFun (Classical.choose_spec spec_BitGap.ex) α

/-- loop.example/pinfold/spec.l3Gap -/
noncomputable def spec_l3Gap.b {α : Type} (N : Nat) (a85 : Int × Int × Unit) (k0 : Int → Option α) : Option α :=
  spec_BitGap N a85.1 a85.2.1
    (fun x92 =>
      k0 x92)
theorem spec_l3Gap.ex : ∃ f : ((α : Type) → Nat → (Int × Int × Unit) → (Int → Option α) → Option α), f = fun α => @spec_l3Gap.b α := ⟨_, rfl⟩
noncomputable def spec_l3Gap {α : Type} : Nat → (Int × Int × Unit) → (Int → Option α) → Option α := Classical.choose spec_l3Gap.ex α
theorem spec_l3Gap.eq : @spec_l3Gap = @spec_l3Gap.b := funext fun α => congrFun (Classical.choose_spec spec_l3Gap.ex) α

/-- loop.example/pinfold/spec.BitMiddle -/
noncomputable def spec_BitMiddle.b {α : Type} (N : Nat) (a95 : Int) (a96 : Int) (k0 : Int → Option α) : Option α :=
  let x97 := IntKind.u64.wrap a95
  spec_BitGap N a95 a96
    (fun x98 =>
      let x99 := (IntKind.u64.wrap (Int.tdiv x98 (2 : Int)))
      let x100 := IntKind.u64.wrap (x97 + x99)
      let x101 := IntKind.i64.wrap x100
      k0 x101)
theorem spec_BitMiddle.ex : ∃ f : ((α : Type) → Nat → Int → Int → (Int → Option α) → Option α), f = fun α => @spec_BitMiddle.b α := ⟨_, rfl⟩
noncomputable def spec_BitMiddle {α : Type} : Nat → Int → Int → (Int → Option α) → Option α := Classical.choose spec_BitMiddle.ex α
theorem spec_BitMiddle.eq : @spec_BitMiddle = @spec_BitMiddle.b := funext fun α => congrFun (Classical.choose_spec spec_BitMiddle.ex) α

/-- loop.example/pinfold/spec.PairSplit -/
noncomputable def spec_PairSplit.b {α : Type} (N : Nat) (a81 : Int) (a82 : Int × Int × Unit) (k0 : (Int × Int × Unit) → (Int × Int × Unit) → Bool → Option α) : Option α :=
  spec_PairOk N a81 a82
    (fun x83 =>
      let x84 := !x83
      bif x84 then
        k0 ((0 : Int), ((0 : Int), ())) ((0 : Int), ((0 : Int), ())) false
      else
        spec_l3Gap N a82
          (fun x93 =>
            let x94 := (decide (x93 < (2 : Int)))
            bif x94 then
              k0 ((0 : Int), ((0 : Int), ())) ((0 : Int), ((0 : Int), ())) false
            else
              spec_BitMiddle N a82.1 a82.2.1
                (fun x102 =>
                  k0 (a82.1, (x102, ())) (x102, (a82.2.1, ())) true)))
theorem spec_PairSplit.ex : ∃ f : ((α : Type) → Nat → Int → (Int × Int × Unit) → ((Int × Int × Unit) → (Int × Int × Unit) → Bool → Option α) → Option α), f = fun α => @spec_PairSplit.b α := ⟨_, rfl⟩
noncomputable def spec_PairSplit {α : Type} : Nat → Int → (Int × Int × Unit) → ((Int × Int × Unit) → (Int × Int × Unit) → Bool → Option α) → Option α := Classical.choose spec_PairSplit.ex α
theorem spec_PairSplit.eq : @spec_PairSplit = @spec_PairSplit.b := funext fun α => congrFun (Classical.choose_spec spec_PairSplit.ex) α

noncomputable def spec_l4With_J5.b {α : Type} (N : Nat) (v118 : Int) (v119 : Int) (v120 : (List (Int × Int × Unit)) × Unit) (v121 : Int × Int × Unit) (v122 : List (Int × Int × Unit)) (v123 : List (Int × Int × Unit)) (k0 : Int → Int → ((List (Int × Int × Unit)) × Unit) → (Int × Int × Unit) → List (Int × Int × Unit) → List (Int × Int × Unit) → Option α) : Option α :=
  let x124 := decide (v119 = v118)
  bif x124 then
    let x125 := [v121]
    bif decide (v123.length + x125.length ≤ 8796093022208) then
      let x126 := v123 ++ x125
      k0 v118 v119 v120 v121 v122 x126
    else
      none
  else
    bif (decide (v119 < (0 : Int))) then
      none
    else
      match v120.1[v119.toNat]? with
      | some x127 =>
        let x128 := [x127]
        bif decide (v123.length + x128.length ≤ 8796093022208) then
          let x129 := v123 ++ x128
          k0 v118 v119 v120 v121 v122 x129
        else
          none
      | none => none
theorem spec_l4With_J5.ex : ∃ f : ((α : Type) → Nat → Int → Int → ((List (Int × Int × Unit)) × Unit) → (Int × Int × Unit) → List (Int × Int × Unit) → List (Int × Int × Unit) → (Int → Int → ((List (Int × Int × Unit)) × Unit) → (Int × Int × Unit) → List (Int × Int × Unit) → List (Int × Int × Unit) → Option α) → Option α), f = fun α => @spec_l4With_J5.b α := ⟨_, rfl⟩
noncomputable def spec_l4With_J5 {α : Type} : Nat → Int → Int → ((List (Int × Int × Unit)) × Unit) → (Int × Int × Unit) → List (Int × Int × Unit) → List (Int × Int × Unit) → (Int → Int → ((List (Int × Int × Unit)) × Unit) → (Int × Int × Unit) → List (Int × Int × Unit) → List (Int × Int × Unit) → Option α) → Option α := Classical.choose spec_l4With_J5.ex α
theorem spec_l4With_J5.eq : @spec_l4With_J5 = @spec_l4With_J5.b := funext fun α => congrFun (Classical.choose_spec spec_l4With_J5.ex) α
noncomputable def spec_l4With_L0r {α : Type} (N : Nat) (next : Int → Int → ((List (Int × Int × Unit)) × Unit) → (Int × Int × Unit) → List (Int × Int × Unit) → List (Int × Int × Unit) → Option α) (k0 : List (Int × Int × Unit) → List (Int × Int × Unit) → Option α) (v110 : Int) (v111 : Int) (v112 : (List (Int × Int × Unit)) × Unit) (v113 : Int × Int × Unit) (v114 : List (Int × Int × Unit)) (v115 : List (Int × Int × Unit)) : Option α :=
  let x116 := ((v112.1.length : Nat) : Int)
  let x117 := decide (v111 < x116)
  bif x117 then
    spec_l4With_J5 N v110 v111 v112 v113 v114 v115
      (fun x130 x131 x132 x133 x134 x135 =>
        let x136 := (IntKind.i64.wrap (x131 + (1 : Int)))
        next x130 x136 x132 x133 x134 x135)
  else
    k0 v114 v115
noncomputable def spec_l4With_L0.b {α : Type} (N n : Nat) (v110 : Int) (v111 : Int) (v112 : (List (Int × Int × Unit)) × Unit) (v113 : Int × Int × Unit) (v114 : List (Int × Int × Unit)) (v115 : List (Int × Int × Unit)) (k0 : List (Int × Int × Unit) → List (Int × Int × Unit) → Option α) : Option α :=
  Nat.rec (motive := fun _ => Int → Int → ((List (Int × Int × Unit)) × Unit) → (Int × Int × Unit) → List (Int × Int × Unit) → List (Int × Int × Unit) → Option α) (fun _ _ _ _ _ _ => none) (fun _ next => spec_l4With_L0r N next k0) n v110 v111 v112 v113 v114 v115
theorem spec_l4With_L0.ex : ∃ f : ((α : Type) → Nat → Nat → Int → Int → ((List (Int × Int × Unit)) × Unit) → (Int × Int × Unit) → List (Int × Int × Unit) → List (Int × Int × Unit) → (List (Int × Int × Unit) → List (Int × Int × Unit) → Option α) → Option α), f = fun α => @spec_l4With_L0.b α := ⟨_, rfl⟩
noncomputable def spec_l4With_L0 {α : Type} : Nat → Nat → Int → Int → ((List (Int × Int × Unit)) × Unit) → (Int × Int × Unit) → List (Int × Int × Unit) → List (Int × Int × Unit) → (List (Int × Int × Unit) → List (Int × Int × Unit) → Option α) → Option α := Classical.choose spec_l4With_L0.ex α
theorem spec_l4With_L0.eq : @spec_l4With_L0 = @spec_l4With_L0.b := funext fun α => congrFun (Classical.choose_spec spec_l4With_L0.ex) α
theorem spec_l4With_L0.zero {α : Type} (N : Nat) (v110 : Int) (v111 : Int) (v112 : (List (Int × Int × Unit)) × Unit) (v113 : Int × Int × Unit) (v114 : List (Int × Int × Unit)) (v115 : List (Int × Int × Unit)) (k0 : List (Int × Int × Unit) → List (Int × Int × Unit) → Option α) : spec_l4With_L0 N 0 v110 v111 v112 v113 v114 v115 k0 = none := by rw [spec_l4With_L0.eq]; rfl
theorem spec_l4With_L0.succ {α : Type} (N n : Nat) (v110 : Int) (v111 : Int) (v112 : (List (Int × Int × Unit)) × Unit) (v113 : Int × Int × Unit) (v114 : List (Int × Int × Unit)) (v115 : List (Int × Int × Unit)) (k0 : List (Int × Int × Unit) → List (Int × Int × Unit) → Option α) : spec_l4With_L0 N (n + 1) v110 v111 v112 v113 v114 v115 k0 = spec_l4With_L0r N (fun y0 y1 y2 y3 y4 y5 => spec_l4With_L0 N n y0 y1 y2 y3 y4 y5 k0) k0 v110 v111 v112 v113 v114 v115 := by rw [spec_l4With_L0.eq]; rfl
/-- loop.example/pinfold/spec.l4With -/
noncomputable def spec_l4With.b {α : Type} (N : Nat) (a107 : (List (Int × Int × Unit)) × Unit) (a108 : Int) (a109 : Int × Int × Unit) (k0 : ((List (Int × Int × Unit)) × Unit) → Option α) : Option α :=
  spec_l4With_L0 N N a108 (0 : Int) a107 a109 [] []
    (fun _ x138 =>
      k0 (x138, ()))
theorem spec_l4With.ex : ∃ f : ((α : Type) → Nat → ((List (Int × Int × Unit)) × Unit) → Int → (Int × Int × Unit) → (((List (Int × Int × Unit)) × Unit) → Option α) → Option α), f = fun α => @spec_l4With.b α := ⟨_, rfl⟩
noncomputable def spec_l4With {α : Type} : Nat → ((List (Int × Int × Unit)) × Unit) → Int → (Int × Int × Unit) → (((List (Int × Int × Unit)) × Unit) → Option α) → Option α := Classical.choose spec_l4With.ex α
theorem spec_l4With.eq : @spec_l4With = @spec_l4With.b := funext fun α => congrFun (Classical.choose_spec spec_l4With.ex) α

/-- loop.example/pinfold/spec.BoxSplit -/
noncomputable def spec_BoxSplit.b {α : Type} (N : Nat) (a33 : Int) (a34 : (List (Int × Int × Unit)) × Unit) (a35 : Int) (k0 : ((List (Int × Int × Unit)) × Unit) → ((List (Int × Int × Unit)) × Unit) → Bool → Option α) : Option α :=
  spec_BoxOk N a33 a34
    (fun x75 =>
      let x76 := !x75
      bif x76 then
        k0 ([], ()) ([], ()) false
      else
        let x77 := (decide (a35 < (0 : Int)))
        bif x77 then
          k0 ([], ()) ([], ()) false
        else
          let x78 := ((a34.1.length : Nat) : Int)
          let x79 := decide (x78 ≤ a35)
          bif x79 then
            k0 ([], ()) ([], ()) false
          else
            bif (decide (a35 < (0 : Int))) then
              none
            else
              match a34.1[a35.toNat]? with
              | some x80 =>
                spec_PairSplit N a33 x80
                  (fun x103 x104 x105 =>
                    let x106 := !x105
                    bif x106 then
                      k0 ([], ()) ([], ()) false
                    else
                      spec_l4With N a34 a35 x103
                        (fun x139 =>
                          spec_l4With N a34 a35 x104
                            (fun x140 =>
                              k0 x139 x140 true)))
              | none => none)
theorem spec_BoxSplit.ex : ∃ f : ((α : Type) → Nat → Int → ((List (Int × Int × Unit)) × Unit) → Int → (((List (Int × Int × Unit)) × Unit) → ((List (Int × Int × Unit)) × Unit) → Bool → Option α) → Option α), f = fun α => @spec_BoxSplit.b α := ⟨_, rfl⟩
noncomputable def spec_BoxSplit {α : Type} : Nat → Int → ((List (Int × Int × Unit)) × Unit) → Int → (((List (Int × Int × Unit)) × Unit) → ((List (Int × Int × Unit)) × Unit) → Bool → Option α) → Option α := Classical.choose spec_BoxSplit.ex α
theorem spec_BoxSplit.eq : @spec_BoxSplit = @spec_BoxSplit.b := funext fun α => congrFun (Classical.choose_spec spec_BoxSplit.ex) α

/-- loop.example/pinfold/impl.in -/
noncomputable def impl_in.b {α : Type} (N : Nat) (a155 : Int) (a156 : Int) (a157 : Int) (k0 : Bool → Option α) : Option α :=
  let x158 := decide (a156 ≤ a155)
  bif x158 then
    let x159 := decide (a155 ≤ a157)
    k0 x159
  else
    k0 false
theorem impl_in.ex : ∃ f : ((α : Type) → Nat → Int → Int → Int → (Bool → Option α) → Option α), f = fun α => @impl_in.b α := ⟨_, rfl⟩
noncomputable def impl_in {α : Type} : Nat → Int → Int → Int → (Bool → Option α) → Option α := Classical.choose impl_in.ex α
theorem impl_in.eq : @impl_in = @impl_in.b := funext fun α => congrFun (Classical.choose_spec impl_in.ex) α

/-- loop.example/pinfold/impl.formatOf -/
noncomputable def impl_formatOf.b {α : Type} (N : Nat) (a177 : Int) (k0 : (Int × Int × Int × Int × Unit) → Bool → Option α) : Option α :=
  let x178 := (decide (a177 = (32 : Int)))
  bif x178 then
    k0 ((23 : Int), ((-149 : Int), ((127 : Int), ((2139095040 : Int), ())))) true
  else
    let x179 := (decide (a177 = (64 : Int)))
    bif x179 then
      k0 ((52 : Int), ((-1074 : Int), ((1023 : Int), ((9218868437227405312 : Int), ())))) true
    else
      k0 ((0 : Int), ((0 : Int), ((0 : Int), ((0 : Int), ())))) false
theorem impl_formatOf.ex : ∃ f : ((α : Type) → Nat → Int → ((Int × Int × Int × Int × Unit) → Bool → Option α) → Option α), f = fun α => @impl_formatOf.b α := ⟨_, rfl⟩
noncomputable def impl_formatOf {α : Type} : Nat → Int → ((Int × Int × Int × Int × Unit) → Bool → Option α) → Option α := Classical.choose impl_formatOf.ex α
theorem impl_formatOf.eq : @impl_formatOf = @impl_formatOf.b := funext fun α => congrFun (Classical.choose_spec impl_formatOf.ex) α

/-- loop.example/pinfold/impl.BitTop -/
noncomputable def impl_BitTop.b {α : Type} (N : Nat) (a176 : Int) (k0 : Int → Option α) : Option α :=
  impl_formatOf N a176
    (fun x180 _ =>
      k0 x180.2.2.2.1)
theorem impl_BitTop.ex : ∃ f : ((α : Type) → Nat → Int → (Int → Option α) → Option α), f = fun α => @impl_BitTop.b α := ⟨_, rfl⟩
noncomputable def impl_BitTop {α : Type} : Nat → Int → (Int → Option α) → Option α := Classical.choose impl_BitTop.ex α
theorem impl_BitTop.eq : @impl_BitTop = @impl_BitTop.b := funext fun α => congrFun (Classical.choose_spec impl_BitTop.ex) α

/-- loop.example/pinfold/impl.BitOk -/
noncomputable def impl_BitOk.b {α : Type} (N : Nat) (a183 : Int) (a184 : Int) (k0 : Bool → Option α) : Option α :=
  impl_formatOf N a183
    (fun x185 x186 =>
      bif x186 then
        let x187 := IntKind.i64.wrap (0 - x185.2.2.2.1)
        impl_in N a184 x187 x185.2.2.2.1
          (fun x188 =>
            k0 x188)
      else
        k0 false)
theorem impl_BitOk.ex : ∃ f : ((α : Type) → Nat → Int → Int → (Bool → Option α) → Option α), f = fun α => @impl_BitOk.b α := ⟨_, rfl⟩
noncomputable def impl_BitOk {α : Type} : Nat → Int → Int → (Bool → Option α) → Option α := Classical.choose impl_BitOk.ex α
theorem impl_BitOk.eq : @impl_BitOk = @impl_BitOk.b := funext fun α => congrFun (Classical.choose_spec impl_BitOk.ex) α

/-- loop.example/pinfold/impl.PairOk -/
noncomputable def impl_PairOk.b {α : Type} (N : Nat) (a174 : Int) (a175 : Int × Int × Unit) (k0 : Bool → Option α) : Option α :=
  impl_BitTop N a174
    (fun x182 =>
      impl_BitOk N a174 a175.1
        (fun x189 =>
          bif x189 then
            impl_BitOk N a174 a175.2.1
              (fun x190 =>
                bif x190 then
                  let x191 := decide (a175.1 ≤ a175.2.1)
                  bif x191 then
                    let x192 := !(decide (a175.1 = x182))
                    bif x192 then
                      let x193 := IntKind.i64.wrap (0 - x182)
                      let x194 := !(decide (a175.2.1 = x193))
                      k0 x194
                    else
                      k0 false
                  else
                    k0 false
                else
                  k0 false)
          else
            k0 false))
theorem impl_PairOk.ex : ∃ f : ((α : Type) → Nat → Int → (Int × Int × Unit) → (Bool → Option α) → Option α), f = fun α => @impl_PairOk.b α := ⟨_, rfl⟩
noncomputable def impl_PairOk {α : Type} : Nat → Int → (Int × Int × Unit) → (Bool → Option α) → Option α := Classical.choose impl_PairOk.ex α
theorem impl_PairOk.eq : @impl_PairOk = @impl_PairOk.b := funext fun α => congrFun (Classical.choose_spec impl_PairOk.ex) α

/-- loop.example/pinfold/impl.BoxOk$1 -/
noncomputable def impl_BoxOk_1.b {α : Type} (N : Nat) (a172 : Int × Int × Unit) (a173 : Int) (k0 : Bool → Option α) : Option α :=
  impl_PairOk N a173 a172
    (fun x195 =>
      let x196 := !x195
      k0 x196)
theorem impl_BoxOk_1.ex : ∃ f : ((α : Type) → Nat → (Int × Int × Unit) → Int → (Bool → Option α) → Option α), f = fun α => @impl_BoxOk_1.b α := ⟨_, rfl⟩
noncomputable def impl_BoxOk_1 {α : Type} : Nat → (Int × Int × Unit) → Int → (Bool → Option α) → Option α := Classical.choose impl_BoxOk_1.ex α
theorem impl_BoxOk_1.eq : @impl_BoxOk_1 = @impl_BoxOk_1.b := funext fun α => congrFun (Classical.choose_spec impl_BoxOk_1.ex) α

noncomputable def slices_IndexFunc_impl_Pair_impl_Pair__impl_BoxOk_1_L0r {α : Type} (N : Nat) (next : List (Int × Int × Unit) → Int → Int → Int → Option α) (k0 : Int → Option α) (k1 : Option α) (v166 : List (Int × Int × Unit)) (v167 : Int) (v168 : Int) (v169 : Int) : Option α :=
  let x170 := decide (v169 < v168)
  bif x170 then
    bif (decide (v169 < (0 : Int))) then
      none
    else
      match v166[v169.toNat]? with
      | some x171 =>
        impl_BoxOk_1 N x171 v167
          (fun x197 =>
            bif x197 then
              k0 v169
            else
              let x198 := (IntKind.i64.wrap (v169 + (1 : Int)))
              next v166 v167 v168 x198)
      | none => none
  else
    k1
noncomputable def slices_IndexFunc_impl_Pair_impl_Pair__impl_BoxOk_1_L0.b {α : Type} (N n : Nat) (v166 : List (Int × Int × Unit)) (v167 : Int) (v168 : Int) (v169 : Int) (k0 : Int → Option α) (k1 : Option α) : Option α :=
  Nat.rec (motive := fun _ => List (Int × Int × Unit) → Int → Int → Int → Option α) (fun _ _ _ _ => none) (fun _ next => slices_IndexFunc_impl_Pair_impl_Pair__impl_BoxOk_1_L0r N next k0 k1) n v166 v167 v168 v169
theorem slices_IndexFunc_impl_Pair_impl_Pair__impl_BoxOk_1_L0.ex : ∃ f : ((α : Type) → Nat → Nat → List (Int × Int × Unit) → Int → Int → Int → (Int → Option α) → (Option α) → Option α), f = fun α => @slices_IndexFunc_impl_Pair_impl_Pair__impl_BoxOk_1_L0.b α := ⟨_, rfl⟩
noncomputable def slices_IndexFunc_impl_Pair_impl_Pair__impl_BoxOk_1_L0 {α : Type} : Nat → Nat → List (Int × Int × Unit) → Int → Int → Int → (Int → Option α) → (Option α) → Option α := Classical.choose slices_IndexFunc_impl_Pair_impl_Pair__impl_BoxOk_1_L0.ex α
theorem slices_IndexFunc_impl_Pair_impl_Pair__impl_BoxOk_1_L0.eq : @slices_IndexFunc_impl_Pair_impl_Pair__impl_BoxOk_1_L0 = @slices_IndexFunc_impl_Pair_impl_Pair__impl_BoxOk_1_L0.b := funext fun α => congrFun (Classical.choose_spec slices_IndexFunc_impl_Pair_impl_Pair__impl_BoxOk_1_L0.ex) α
theorem slices_IndexFunc_impl_Pair_impl_Pair__impl_BoxOk_1_L0.zero {α : Type} (N : Nat) (v166 : List (Int × Int × Unit)) (v167 : Int) (v168 : Int) (v169 : Int) (k0 : Int → Option α) (k1 : Option α) : slices_IndexFunc_impl_Pair_impl_Pair__impl_BoxOk_1_L0 N 0 v166 v167 v168 v169 k0 k1 = none := by rw [slices_IndexFunc_impl_Pair_impl_Pair__impl_BoxOk_1_L0.eq]; rfl
theorem slices_IndexFunc_impl_Pair_impl_Pair__impl_BoxOk_1_L0.succ {α : Type} (N n : Nat) (v166 : List (Int × Int × Unit)) (v167 : Int) (v168 : Int) (v169 : Int) (k0 : Int → Option α) (k1 : Option α) : slices_IndexFunc_impl_Pair_impl_Pair__impl_BoxOk_1_L0 N (n + 1) v166 v167 v168 v169 k0 k1 = slices_IndexFunc_impl_Pair_impl_Pair__impl_BoxOk_1_L0r N (fun y0 y1 y2 y3 => slices_IndexFunc_impl_Pair_impl_Pair__impl_BoxOk_1_L0 N n y0 y1 y2 y3 k0 k1) k0 k1 v166 v167 v168 v169 := by rw [slices_IndexFunc_impl_Pair_impl_Pair__impl_BoxOk_1_L0.eq]; rfl
/-- slices.IndexFunc[[]loop.example/pinfold/impl.Pair,loop.example/pinfold/impl.Pair] -/
noncomputable def slices_IndexFunc_impl_Pair_impl_Pair__impl_BoxOk_1.b {α : Type} (N : Nat) (a163 : List (Int × Int × Unit)) (a164 : Int) (k0 : Int → Option α) : Option α :=
  let x165 := ((a163.length : Nat) : Int)
  slices_IndexFunc_impl_Pair_impl_Pair__impl_BoxOk_1_L0 N N a163 a164 x165 (0 : Int)
    (fun x199 =>
      k0 x199)
    (
      k0 (-1 : Int))
theorem slices_IndexFunc_impl_Pair_impl_Pair__impl_BoxOk_1.ex : ∃ f : ((α : Type) → Nat → List (Int × Int × Unit) → Int → (Int → Option α) → Option α), f = fun α => @slices_IndexFunc_impl_Pair_impl_Pair__impl_BoxOk_1.b α := ⟨_, rfl⟩
noncomputable def slices_IndexFunc_impl_Pair_impl_Pair__impl_BoxOk_1 {α : Type} : Nat → List (Int × Int × Unit) → Int → (Int → Option α) → Option α := Classical.choose slices_IndexFunc_impl_Pair_impl_Pair__impl_BoxOk_1.ex α
theorem slices_IndexFunc_impl_Pair_impl_Pair__impl_BoxOk_1.eq : @slices_IndexFunc_impl_Pair_impl_Pair__impl_BoxOk_1 = @slices_IndexFunc_impl_Pair_impl_Pair__impl_BoxOk_1.b := funext fun α => congrFun (Classical.choose_spec slices_IndexFunc_impl_Pair_impl_Pair__impl_BoxOk_1.ex) α

/-- slices.ContainsFunc[[]loop.example/pinfold/impl.Pair,loop.example/pinfold/impl.Pair] -/
noncomputable def slices_ContainsFunc_impl_Pair_impl_Pair__impl_BoxOk_1.b {α : Type} (N : Nat) (a161 : List (Int × Int × Unit)) (a162 : Int) (k0 : Bool → Option α) : Option α :=
  slices_IndexFunc_impl_Pair_impl_Pair__impl_BoxOk_1 N a161 a162
    (fun x200 =>
      let x201 := (decide ((0 : Int) ≤ x200))
      k0 x201)
theorem slices_ContainsFunc_impl_Pair_impl_Pair__impl_BoxOk_1.ex : ∃ f : ((α : Type) → Nat → List (Int × Int × Unit) → Int → (Bool → Option α) → Option α), f = fun α => @slices_ContainsFunc_impl_Pair_impl_Pair__impl_BoxOk_1.b α := ⟨_, rfl⟩
noncomputable def slices_ContainsFunc_impl_Pair_impl_Pair__impl_BoxOk_1 {α : Type} : Nat → List (Int × Int × Unit) → Int → (Bool → Option α) → Option α := Classical.choose slices_ContainsFunc_impl_Pair_impl_Pair__impl_BoxOk_1.ex α
theorem slices_ContainsFunc_impl_Pair_impl_Pair__impl_BoxOk_1.eq : @slices_ContainsFunc_impl_Pair_impl_Pair__impl_BoxOk_1 = @slices_ContainsFunc_impl_Pair_impl_Pair__impl_BoxOk_1.b := funext fun α => congrFun (Classical.choose_spec slices_ContainsFunc_impl_Pair_impl_Pair__impl_BoxOk_1.ex) α

/-- loop.example/pinfold/impl.BoxOk -/
noncomputable def impl_BoxOk.b {α : Type} (N : Nat) (a152 : Int) (a153 : (List (Int × Int × Unit)) × Unit) (k0 : Bool → Option α) : Option α :=
  let x154 := ((a153.1.length : Nat) : Int)
  impl_in N x154 (1 : Int) (6 : Int)
    (fun x160 =>
      bif x160 then
        slices_ContainsFunc_impl_Pair_impl_Pair__impl_BoxOk_1 N a153.1 a152
          (fun x202 =>
            let x203 := !x202
            k0 x203)
      else
        k0 false)
theorem impl_BoxOk.ex : ∃ f : ((α : Type) → Nat → Int → ((List (Int × Int × Unit)) × Unit) → (Bool → Option α) → Option α), f = fun α => @impl_BoxOk.b α := ⟨_, rfl⟩
noncomputable def impl_BoxOk {α : Type} : Nat → Int → ((List (Int × Int × Unit)) × Unit) → (Bool → Option α) → Option α := Classical.choose impl_BoxOk.ex α
theorem impl_BoxOk.eq : @impl_BoxOk = @impl_BoxOk.b := funext fun α => congrFun (Classical.choose_spec impl_BoxOk.ex) α

/-- loop.example/pinfold/impl.BitGap -/
noncomputable def impl_BitGap.b {α : Type} (N : Nat) (a218 : Int) (a219 : Int) (k0 : Int → Option α) : Option α :=
  let x220 := decide (a219 < a218)
  bif x220 then
    k0 (0 : Int)
  else
    let x221 := IntKind.u64.wrap a219
    let x222 := IntKind.u64.wrap a218
    let x223 := IntKind.u64.wrap (x221 - x222)
    k0 x223
theorem impl_BitGap.ex : ∃ f : ((α : Type) → Nat → Int → Int → (Int → Option α) → Option α), f = fun α => @impl_BitGap.b α := ⟨_, rfl⟩
noncomputable def impl_BitGap {α : Type} : Nat → Int → Int → (Int → Option α) → Option α := Classical.choose impl_BitGap.ex α
theorem impl_BitGap.eq : @impl_BitGap = @impl_BitGap.b := funext fun α => congrFun (Classical.choose_spec impl_BitGap.ex) α

/-- (loop.example/pinfold/impl.Pair).steps -/
noncomputable def impl_Pair_steps.b {α : Type} (N : Nat) (a217 : Int × Int × Unit) (k0 : Int → Option α) : Option α :=
  impl_BitGap N a217.1 a217.2.1
    (fun x224 =>
      k0 x224)
theorem impl_Pair_steps.ex : ∃ f : ((α : Type) → Nat → (Int × Int × Unit) → (Int → Option α) → Option α), f = fun α => @impl_Pair_steps.b α := ⟨_, rfl⟩
noncomputable def impl_Pair_steps {α : Type} : Nat → (Int × Int × Unit) → (Int → Option α) → Option α := Classical.choose impl_Pair_steps.ex α
theorem impl_Pair_steps.eq : @impl_Pair_steps = @impl_Pair_steps.b := funext fun α => congrFun (Classical.choose_spec impl_Pair_steps.ex) α

/-- loop.example/pinfold/impl.BitMiddle -/
noncomputable def impl_BitMiddle.b {α : Type} (N : Nat) (a227 : Int) (a228 : Int) (k0 : Int → Option α) : Option α :=
  impl_BitGap N a227 a228
    (fun x229 =>
      let x230 := (IntKind.u64.wrap (Int.tdiv x229 (2 : Int)))
      let x231 := IntKind.i64.wrap x230
      let x232 := IntKind.i64.wrap (a227 + x231)
      k0 x232)
theorem impl_BitMiddle.ex : ∃ f : ((α : Type) → Nat → Int → Int → (Int → Option α) → Option α), f = fun α => @impl_BitMiddle.b α := ⟨_, rfl⟩
noncomputable def impl_BitMiddle {α : Type} : Nat → Int → Int → (Int → Option α) → Option α := Classical.choose impl_BitMiddle.ex α
theorem impl_BitMiddle.eq : @impl_BitMiddle = @impl_BitMiddle.b := funext fun α => congrFun (Classical.choose_spec impl_BitMiddle.ex) α

/-- loop.example/pinfold/impl.PairSplit -/
noncomputable def impl_PairSplit.b {α : Type} (N : Nat) (a213 : Int) (a214 : Int × Int × Unit) (k0 : (Int × Int × Unit) → (Int × Int × Unit) → Bool → Option α) : Option α :=
  impl_PairOk N a213 a214
    (fun x215 =>
      let x216 := !x215
      bif x216 then
        k0 ((0 : Int), ((0 : Int), ())) ((0 : Int), ((0 : Int), ())) false
      else
        impl_Pair_steps N a214
          (fun x225 =>
            let x226 := (decide (x225 < (2 : Int)))
            bif x226 then
              k0 ((0 : Int), ((0 : Int), ())) ((0 : Int), ((0 : Int), ())) false
            else
              impl_BitMiddle N a214.1 a214.2.1
                (fun x233 =>
                  k0 (a214.1, (x233, ())) (x233, (a214.2.1, ())) true)))
theorem impl_PairSplit.ex : ∃ f : ((α : Type) → Nat → Int → (Int × Int × Unit) → ((Int × Int × Unit) → (Int × Int × Unit) → Bool → Option α) → Option α), f = fun α => @impl_PairSplit.b α := ⟨_, rfl⟩
noncomputable def impl_PairSplit {α : Type} : Nat → Int → (Int × Int × Unit) → ((Int × Int × Unit) → (Int × Int × Unit) → Bool → Option α) → Option α := Classical.choose impl_PairSplit.ex α
theorem impl_PairSplit.eq : @impl_PairSplit = @impl_PairSplit.b := funext fun α => congrFun (Classical.choose_spec impl_PairSplit.ex) α

/-- loop.example/pinfold/impl.BoxSplit$1 -/
noncomputable def impl_BoxSplit_1.b {α : Type} (N : Nat) (a211 : Int × Int × Unit) (a212 : Int) (k0 : (Int × Int × Unit) → (Int × Int × Unit) → Bool → Option α) : Option α :=
  impl_PairSplit N a212 a211
    (fun x234 x235 x236 =>
      k0 x234 x235 x236)
theorem impl_BoxSplit_1.ex : ∃ f : ((α : Type) → Nat → (Int × Int × Unit) → Int → ((Int × Int × Unit) → (Int × Int × Unit) → Bool → Option α) → Option α), f = fun α => @impl_BoxSplit_1.b α := ⟨_, rfl⟩
noncomputable def impl_BoxSplit_1 {α : Type} : Nat → (Int × Int × Unit) → Int → ((Int × Int × Unit) → (Int × Int × Unit) → Bool → Option α) → Option α := Classical.choose impl_BoxSplit_1.ex α
theorem impl_BoxSplit_1.eq : @impl_BoxSplit_1 = @impl_BoxSplit_1.b := funext fun α => congrFun (Classical.choose_spec impl_BoxSplit_1.ex) α

/-- slices.Clone[[]loop.example/pinfold/impl.Pair,loop.example/pinfold/impl.Pair] -/
noncomputable def slices_Clone_impl_Pair_impl_Pair {α : Type} (N : Nat) (a1 : List (Int × Int × Unit)) (k0 : List (Int × Int × Unit) → Option α) : Option α :=
  bif decide (([] : List (Int × Int × Unit)).length + a1.length ≤ 8796093022208) then k0 a1 else none

/-- slices.Clip[[]loop.example/pinfold/impl.Pair,loop.example/pinfold/impl.Pair] -/
noncomputable def slices_Clip_impl_Pair_impl_Pair.b {α : Type} (N : Nat) (a246 : List (Int × Int × Unit)) (k0 : List (Int × Int × Unit) → Option α) : Option α :=
  let x247 := ((a246.length : Nat) : Int)
  let x248 := ((a246.length : Nat) : Int)
  bif (decide ((0 : Int) ≤ x248)) then
    bif (decide (x248 ≤ ((a246.length : Nat) : Int))) then
      bif (decide ((0 : Int) ≤ x247)) then
        bif (decide (x247 ≤ ((x248.toNat : Nat) : Int))) then
          let x249 := a246.take x247.toNat
          k0 x249
        else
          none
      else
        none
    else
      none
  else
    none
theorem slices_Clip_impl_Pair_impl_Pair.ex : ∃ f : ((α : Type) → Nat → List (Int × Int × Unit) → (List (Int × Int × Unit) → Option α) → Option α), f = fun α => @slices_Clip_impl_Pair_impl_Pair.b α := ⟨_, rfl⟩
noncomputable def slices_Clip_impl_Pair_impl_Pair {α : Type} : Nat → List (Int × Int × Unit) → (List (Int × Int × Unit) → Option α) → Option α := Classical.choose slices_Clip_impl_Pair_impl_Pair.ex α
theorem slices_Clip_impl_Pair_impl_Pair.eq : @slices_Clip_impl_Pair_impl_Pair = @slices_Clip_impl_Pair_impl_Pair.b := funext fun α => congrFun (Classical.choose_spec slices_Clip_impl_Pair_impl_Pair.ex) α

/-- loop.example/pinfold/impl.clone[loop.example/pinfold/impl.Pair] -/
noncomputable def impl_clone_impl_Pair.b {α : Type} (N : Nat) (a244 : List (Int × Int × Unit)) (k0 : List (Int × Int × Unit) → Option α) : Option α :=
  slices_Clone_impl_Pair_impl_Pair N a244
    (fun x245 =>
      slices_Clip_impl_Pair_impl_Pair N x245
        (fun x250 =>
          k0 x250))
theorem impl_clone_impl_Pair.ex : ∃ f : ((α : Type) → Nat → List (Int × Int × Unit) → (List (Int × Int × Unit) → Option α) → Option α), f = fun α => @impl_clone_impl_Pair.b α := ⟨_, rfl⟩
noncomputable def impl_clone_impl_Pair {α : Type} : Nat → List (Int × Int × Unit) → (List (Int × Int × Unit) → Option α) → Option α := Classical.choose impl_clone_impl_Pair.ex α
theorem impl_clone_impl_Pair.eq : @impl_clone_impl_Pair = @impl_clone_impl_Pair.b := funext fun α => congrFun (Classical.choose_spec impl_clone_impl_Pair.ex) α

/-- (loop.example/pinfold/impl.Box).with -/
noncomputable def impl_Box_with.b {α : Type} (N : Nat) (a241 : (List (Int × Int × Unit)) × Unit) (a242 : Int) (a243 : Int × Int × Unit) (k0 : List (Int × Int × Unit) → Option α) : Option α :=
  impl_clone_impl_Pair N a241.1
    (fun x251 =>
      bif (decide (a242 < (0 : Int))) then
        none
      else
        bif decide (a242.toNat < x251.length) then
          match x251[a242.toNat]? with
          | some x252 =>
            let x253 := x251.set a242.toNat a243
            k0 x253
          | none => none
        else
          none)
theorem impl_Box_with.ex : ∃ f : ((α : Type) → Nat → ((List (Int × Int × Unit)) × Unit) → Int → (Int × Int × Unit) → (List (Int × Int × Unit) → Option α) → Option α), f = fun α => @impl_Box_with.b α := ⟨_, rfl⟩
noncomputable def impl_Box_with {α : Type} : Nat → ((List (Int × Int × Unit)) × Unit) → Int → (Int × Int × Unit) → (List (Int × Int × Unit) → Option α) → Option α := Classical.choose impl_Box_with.ex α
theorem impl_Box_with.eq : @impl_Box_with = @impl_Box_with.b := funext fun α => congrFun (Classical.choose_spec impl_Box_with.ex) α

/-- (loop.example/pinfold/impl.Box).parts -/
noncomputable def impl_Box_parts__impl_BoxSplit_1.b {α : Type} (N : Nat) (a148 : (List (Int × Int × Unit)) × Unit) (a149 : Int) (a150 : Int) (a151 : Int) (k0 : Bool → List (Int × Int × Unit) → List (Int × Int × Unit) → Option α) : Option α :=
  impl_BoxOk N a149 a148
    (fun x204 =>
      let x205 := !x204
      bif x205 then
        k0 false [] []
      else
        let x206 := ((a148.1.length : Nat) : Int)
        let x207 := (IntKind.i64.wrap (x206 - (1 : Int)))
        impl_in N a150 (0 : Int) x207
          (fun x208 =>
            let x209 := !x208
            bif x209 then
              k0 false [] []
            else
              bif (decide (a150 < (0 : Int))) then
                none
              else
                match a148.1[a150.toNat]? with
                | some x210 =>
                  impl_BoxSplit_1 N x210 a151
                    (fun x237 x238 x239 =>
                      let x240 := !x239
                      bif x240 then
                        k0 false [] []
                      else
                        impl_Box_with N a148 a150 x237
                          (fun x254 =>
                            impl_Box_with N a148 a150 x238
                              (fun x255 =>
                                k0 true x254 x255)))
                | none => none))
theorem impl_Box_parts__impl_BoxSplit_1.ex : ∃ f : ((α : Type) → Nat → ((List (Int × Int × Unit)) × Unit) → Int → Int → Int → (Bool → List (Int × Int × Unit) → List (Int × Int × Unit) → Option α) → Option α), f = fun α => @impl_Box_parts__impl_BoxSplit_1.b α := ⟨_, rfl⟩
noncomputable def impl_Box_parts__impl_BoxSplit_1 {α : Type} : Nat → ((List (Int × Int × Unit)) × Unit) → Int → Int → Int → (Bool → List (Int × Int × Unit) → List (Int × Int × Unit) → Option α) → Option α := Classical.choose impl_Box_parts__impl_BoxSplit_1.ex α
theorem impl_Box_parts__impl_BoxSplit_1.eq : @impl_Box_parts__impl_BoxSplit_1 = @impl_Box_parts__impl_BoxSplit_1.b := funext fun α => congrFun (Classical.choose_spec impl_Box_parts__impl_BoxSplit_1.ex) α

/-- loop.example/pinfold/impl.BoxSplit -/
noncomputable def impl_BoxSplit.b {α : Type} (N : Nat) (a145 : Int) (a146 : (List (Int × Int × Unit)) × Unit) (a147 : Int) (k0 : Bool → List (Int × Int × Unit) → List (Int × Int × Unit) → Option α) : Option α :=
  impl_Box_parts__impl_BoxSplit_1 N a146 a145 a147 a145
    (fun x256 x257 x258 =>
      k0 x256 x257 x258)
theorem impl_BoxSplit.ex : ∃ f : ((α : Type) → Nat → Int → ((List (Int × Int × Unit)) × Unit) → Int → (Bool → List (Int × Int × Unit) → List (Int × Int × Unit) → Option α) → Option α), f = fun α => @impl_BoxSplit.b α := ⟨_, rfl⟩
noncomputable def impl_BoxSplit {α : Type} : Nat → Int → ((List (Int × Int × Unit)) × Unit) → Int → (Bool → List (Int × Int × Unit) → List (Int × Int × Unit) → Option α) → Option α := Classical.choose impl_BoxSplit.ex α
theorem impl_BoxSplit.eq : @impl_BoxSplit = @impl_BoxSplit.b := funext fun α => congrFun (Classical.choose_spec impl_BoxSplit.ex) α

/-- loop.example/pinfold/laws.eqPair -/
noncomputable def laws_eqPair.b {α : Type} (N : Nat) (a276 : Int × Int × Unit) (a277 : Int × Int × Unit) (k0 : Bool → Option α) : Option α :=
  let x278 := !(decide (a276.1 = a277.1))
  bif x278 then
    k0 false
  else
    let x279 := !(decide (a276.2.1 = a277.2.1))
    bif x279 then
      k0 false
    else
      k0 true
theorem laws_eqPair.ex : ∃ f : ((α : Type) → Nat → (Int × Int × Unit) → (Int × Int × Unit) → (Bool → Option α) → Option α), f = fun α => @laws_eqPair.b α := ⟨_, rfl⟩
noncomputable def laws_eqPair {α : Type} : Nat → (Int × Int × Unit) → (Int × Int × Unit) → (Bool → Option α) → Option α := Classical.choose laws_eqPair.ex α
theorem laws_eqPair.eq : @laws_eqPair = @laws_eqPair.b := funext fun α => congrFun (Classical.choose_spec laws_eqPair.ex) α

noncomputable def laws_eqPairS_L0r {α : Type} (N : Nat) (next : List (Int × Int × Unit) → List (Int × Int × Unit) → Int → Option α) (k0 : Bool → Option α) (k1 : Option α) (v269 : List (Int × Int × Unit)) (v270 : List (Int × Int × Unit)) (v271 : Int) : Option α :=
  let x272 := ((v269.length : Nat) : Int)
  let x273 := decide (v271 < x272)
  bif x273 then
    bif (decide (v271 < (0 : Int))) then
      none
    else
      match v269[v271.toNat]? with
      | some x274 =>
        bif (decide (v271 < (0 : Int))) then
          none
        else
          match v270[v271.toNat]? with
          | some x275 =>
            laws_eqPair N x274 x275
              (fun x280 =>
                let x281 := !x280
                bif x281 then
                  k0 false
                else
                  let x282 := (IntKind.i64.wrap (v271 + (1 : Int)))
                  next v269 v270 x282)
          | none => none
      | none => none
  else
    k1
noncomputable def laws_eqPairS_L0.b {α : Type} (N n : Nat) (v269 : List (Int × Int × Unit)) (v270 : List (Int × Int × Unit)) (v271 : Int) (k0 : Bool → Option α) (k1 : Option α) : Option α :=
  Nat.rec (motive := fun _ => List (Int × Int × Unit) → List (Int × Int × Unit) → Int → Option α) (fun _ _ _ => none) (fun _ next => laws_eqPairS_L0r N next k0 k1) n v269 v270 v271
theorem laws_eqPairS_L0.ex : ∃ f : ((α : Type) → Nat → Nat → List (Int × Int × Unit) → List (Int × Int × Unit) → Int → (Bool → Option α) → (Option α) → Option α), f = fun α => @laws_eqPairS_L0.b α := ⟨_, rfl⟩
noncomputable def laws_eqPairS_L0 {α : Type} : Nat → Nat → List (Int × Int × Unit) → List (Int × Int × Unit) → Int → (Bool → Option α) → (Option α) → Option α := Classical.choose laws_eqPairS_L0.ex α
theorem laws_eqPairS_L0.eq : @laws_eqPairS_L0 = @laws_eqPairS_L0.b := funext fun α => congrFun (Classical.choose_spec laws_eqPairS_L0.ex) α
theorem laws_eqPairS_L0.zero {α : Type} (N : Nat) (v269 : List (Int × Int × Unit)) (v270 : List (Int × Int × Unit)) (v271 : Int) (k0 : Bool → Option α) (k1 : Option α) : laws_eqPairS_L0 N 0 v269 v270 v271 k0 k1 = none := by rw [laws_eqPairS_L0.eq]; rfl
theorem laws_eqPairS_L0.succ {α : Type} (N n : Nat) (v269 : List (Int × Int × Unit)) (v270 : List (Int × Int × Unit)) (v271 : Int) (k0 : Bool → Option α) (k1 : Option α) : laws_eqPairS_L0 N (n + 1) v269 v270 v271 k0 k1 = laws_eqPairS_L0r N (fun y0 y1 y2 => laws_eqPairS_L0 N n y0 y1 y2 k0 k1) k0 k1 v269 v270 v271 := by rw [laws_eqPairS_L0.eq]; rfl
/-- loop.example/pinfold/laws.eqPairS -/
noncomputable def laws_eqPairS.b {α : Type} (N : Nat) (a264 : List (Int × Int × Unit)) (a265 : List (Int × Int × Unit)) (k0 : Bool → Option α) : Option α :=
  let x266 := ((a264.length : Nat) : Int)
  let x267 := ((a265.length : Nat) : Int)
  let x268 := !(decide (x266 = x267))
  bif x268 then
    k0 false
  else
    laws_eqPairS_L0 N N a264 a265 (0 : Int)
      (fun x283 =>
        k0 x283)
      (
        k0 true)
theorem laws_eqPairS.ex : ∃ f : ((α : Type) → Nat → List (Int × Int × Unit) → List (Int × Int × Unit) → (Bool → Option α) → Option α), f = fun α => @laws_eqPairS.b α := ⟨_, rfl⟩
noncomputable def laws_eqPairS {α : Type} : Nat → List (Int × Int × Unit) → List (Int × Int × Unit) → (Bool → Option α) → Option α := Classical.choose laws_eqPairS.ex α
theorem laws_eqPairS.eq : @laws_eqPairS = @laws_eqPairS.b := funext fun α => congrFun (Classical.choose_spec laws_eqPairS.ex) α

/-- loop.example/pinfold/laws.eqBox -/
noncomputable def laws_eqBox.b {α : Type} (N : Nat) (a262 : (List (Int × Int × Unit)) × Unit) (a263 : (List (Int × Int × Unit)) × Unit) (k0 : Bool → Option α) : Option α :=
  laws_eqPairS N a262.1 a263.1
    (fun x284 =>
      let x285 := !x284
      bif x285 then
        k0 false
      else
        k0 true)
theorem laws_eqBox.ex : ∃ f : ((α : Type) → Nat → ((List (Int × Int × Unit)) × Unit) → ((List (Int × Int × Unit)) × Unit) → (Bool → Option α) → Option α), f = fun α => @laws_eqBox.b α := ⟨_, rfl⟩
noncomputable def laws_eqBox {α : Type} : Nat → ((List (Int × Int × Unit)) × Unit) → ((List (Int × Int × Unit)) × Unit) → (Bool → Option α) → Option α := Classical.choose laws_eqBox.ex α
theorem laws_eqBox.eq : @laws_eqBox = @laws_eqBox.b := funext fun α => congrFun (Classical.choose_spec laws_eqBox.ex) α

noncomputable def laws_markPairS_L0r {α : Type} (N : Nat) (next : Int → Int → List (Int × Int × Unit) → Option α) (k0 : Int → List (Int × Int × Unit) → Option α) (v298 : Int) (v299 : Int) (v300 : List (Int × Int × Unit)) : Option α :=
  let x301 := ((v300.length : Nat) : Int)
  let x302 := decide (v299 < x301)
  bif x302 then
    bif (decide (v299 < (0 : Int))) then
      none
    else
      bif decide (v299.toNat < v300.length) then
        match v300[v299.toNat]? with
        | some x303 =>
          let x304 := v300.set v299.toNat (v298, (x303.2.1, ()))
          let x305 := (IntKind.i64.wrap (v298 + (1 : Int)))
          bif (decide (v299 < (0 : Int))) then
            none
          else
            bif decide (v299.toNat < x304.length) then
              match x304[v299.toNat]? with
              | some x306 =>
                let x307 := x304.set v299.toNat (x306.1, (x305, ()))
                let x308 := (IntKind.i64.wrap (x305 + (1 : Int)))
                let x309 := (IntKind.i64.wrap (v299 + (1 : Int)))
                next x308 x309 x307
              | none => none
            else
              none
        | none => none
      else
        none
  else
    k0 v298 v300
noncomputable def laws_markPairS_L0.b {α : Type} (N n : Nat) (v298 : Int) (v299 : Int) (v300 : List (Int × Int × Unit)) (k0 : Int → List (Int × Int × Unit) → Option α) : Option α :=
  Nat.rec (motive := fun _ => Int → Int → List (Int × Int × Unit) → Option α) (fun _ _ _ => none) (fun _ next => laws_markPairS_L0r N next k0) n v298 v299 v300
theorem laws_markPairS_L0.ex : ∃ f : ((α : Type) → Nat → Nat → Int → Int → List (Int × Int × Unit) → (Int → List (Int × Int × Unit) → Option α) → Option α), f = fun α => @laws_markPairS_L0.b α := ⟨_, rfl⟩
noncomputable def laws_markPairS_L0 {α : Type} : Nat → Nat → Int → Int → List (Int × Int × Unit) → (Int → List (Int × Int × Unit) → Option α) → Option α := Classical.choose laws_markPairS_L0.ex α
theorem laws_markPairS_L0.eq : @laws_markPairS_L0 = @laws_markPairS_L0.b := funext fun α => congrFun (Classical.choose_spec laws_markPairS_L0.ex) α
theorem laws_markPairS_L0.zero {α : Type} (N : Nat) (v298 : Int) (v299 : Int) (v300 : List (Int × Int × Unit)) (k0 : Int → List (Int × Int × Unit) → Option α) : laws_markPairS_L0 N 0 v298 v299 v300 k0 = none := by rw [laws_markPairS_L0.eq]; rfl
theorem laws_markPairS_L0.succ {α : Type} (N n : Nat) (v298 : Int) (v299 : Int) (v300 : List (Int × Int × Unit)) (k0 : Int → List (Int × Int × Unit) → Option α) : laws_markPairS_L0 N (n + 1) v298 v299 v300 k0 = laws_markPairS_L0r N (fun y0 y1 y2 => laws_markPairS_L0 N n y0 y1 y2 k0) k0 v298 v299 v300 := by rw [laws_markPairS_L0.eq]; rfl
/-- loop.example/pinfold/laws.markPairS -/
noncomputable def laws_markPairS.b {α : Type} (N : Nat) (a296 : Int) (a297 : List (Int × Int × Unit)) (k0 : Int → List (Int × Int × Unit) → Option α) : Option α :=
  laws_markPairS_L0 N N a296 (0 : Int) a297
    (fun x310 x311 =>
      k0 x310 x311)
theorem laws_markPairS.ex : ∃ f : ((α : Type) → Nat → Int → List (Int × Int × Unit) → (Int → List (Int × Int × Unit) → Option α) → Option α), f = fun α => @laws_markPairS.b α := ⟨_, rfl⟩
noncomputable def laws_markPairS {α : Type} : Nat → Int → List (Int × Int × Unit) → (Int → List (Int × Int × Unit) → Option α) → Option α := Classical.choose laws_markPairS.ex α
theorem laws_markPairS.eq : @laws_markPairS = @laws_markPairS.b := funext fun α => congrFun (Classical.choose_spec laws_markPairS.ex) α

/-- loop.example/pinfold/laws.markBox -/
noncomputable def laws_markBox.b {α : Type} (N : Nat) (a294 : Int) (a295 : List (Int × Int × Unit)) (k0 : Int → List (Int × Int × Unit) → Option α) : Option α :=
  laws_markPairS N a294 a295
    (fun x312 x313 =>
      k0 x312 x313)
theorem laws_markBox.ex : ∃ f : ((α : Type) → Nat → Int → List (Int × Int × Unit) → (Int → List (Int × Int × Unit) → Option α) → Option α), f = fun α => @laws_markBox.b α := ⟨_, rfl⟩
noncomputable def laws_markBox {α : Type} : Nat → Int → List (Int × Int × Unit) → (Int → List (Int × Int × Unit) → Option α) → Option α := Classical.choose laws_markBox.ex α
theorem laws_markBox.eq : @laws_markBox = @laws_markBox.b := funext fun α => congrFun (Classical.choose_spec laws_markBox.ex) α

noncomputable def laws_heldPairS_L0r {α : Type} (N : Nat) (next : List (Int × Int × Unit) → Int → Int → Option α) (k0 : Int → Option α) (k1 : Int → Option α) (v330 : List (Int × Int × Unit)) (v331 : Int) (v332 : Int) : Option α :=
  let x333 := ((v330.length : Nat) : Int)
  let x334 := decide (v332 < x333)
  bif x334 then
    bif (decide (v332 < (0 : Int))) then
      none
    else
      match v330[v332.toNat]? with
      | some x335 =>
        let x336 := !(decide (x335.1 = v331))
        bif x336 then
          k0 (-1 : Int)
        else
          let x337 := (IntKind.i64.wrap (v331 + (1 : Int)))
          bif (decide (v332 < (0 : Int))) then
            none
          else
            match v330[v332.toNat]? with
            | some x338 =>
              let x339 := !(decide (x338.2.1 = x337))
              bif x339 then
                k0 (-1 : Int)
              else
                let x340 := (IntKind.i64.wrap (x337 + (1 : Int)))
                let x341 := (IntKind.i64.wrap (v332 + (1 : Int)))
                next v330 x340 x341
            | none => none
      | none => none
  else
    k1 v331
noncomputable def laws_heldPairS_L0.b {α : Type} (N n : Nat) (v330 : List (Int × Int × Unit)) (v331 : Int) (v332 : Int) (k0 : Int → Option α) (k1 : Int → Option α) : Option α :=
  Nat.rec (motive := fun _ => List (Int × Int × Unit) → Int → Int → Option α) (fun _ _ _ => none) (fun _ next => laws_heldPairS_L0r N next k0 k1) n v330 v331 v332
theorem laws_heldPairS_L0.ex : ∃ f : ((α : Type) → Nat → Nat → List (Int × Int × Unit) → Int → Int → (Int → Option α) → (Int → Option α) → Option α), f = fun α => @laws_heldPairS_L0.b α := ⟨_, rfl⟩
noncomputable def laws_heldPairS_L0 {α : Type} : Nat → Nat → List (Int × Int × Unit) → Int → Int → (Int → Option α) → (Int → Option α) → Option α := Classical.choose laws_heldPairS_L0.ex α
theorem laws_heldPairS_L0.eq : @laws_heldPairS_L0 = @laws_heldPairS_L0.b := funext fun α => congrFun (Classical.choose_spec laws_heldPairS_L0.ex) α
theorem laws_heldPairS_L0.zero {α : Type} (N : Nat) (v330 : List (Int × Int × Unit)) (v331 : Int) (v332 : Int) (k0 : Int → Option α) (k1 : Int → Option α) : laws_heldPairS_L0 N 0 v330 v331 v332 k0 k1 = none := by rw [laws_heldPairS_L0.eq]; rfl
theorem laws_heldPairS_L0.succ {α : Type} (N n : Nat) (v330 : List (Int × Int × Unit)) (v331 : Int) (v332 : Int) (k0 : Int → Option α) (k1 : Int → Option α) : laws_heldPairS_L0 N (n + 1) v330 v331 v332 k0 k1 = laws_heldPairS_L0r N (fun y0 y1 y2 => laws_heldPairS_L0 N n y0 y1 y2 k0 k1) k0 k1 v330 v331 v332 := by rw [laws_heldPairS_L0.eq]; rfl
/-- loop.example/pinfold/laws.heldPairS -/
noncomputable def laws_heldPairS.b {α : Type} (N : Nat) (a328 : List (Int × Int × Unit)) (a329 : Int) (k0 : Int → Option α) : Option α :=
  laws_heldPairS_L0 N N a328 a329 (0 : Int)
    (fun x342 =>
      k0 x342)
    (fun x343 =>
      k0 x343)
theorem laws_heldPairS.ex : ∃ f : ((α : Type) → Nat → List (Int × Int × Unit) → Int → (Int → Option α) → Option α), f = fun α => @laws_heldPairS.b α := ⟨_, rfl⟩
noncomputable def laws_heldPairS {α : Type} : Nat → List (Int × Int × Unit) → Int → (Int → Option α) → Option α := Classical.choose laws_heldPairS.ex α
theorem laws_heldPairS.eq : @laws_heldPairS = @laws_heldPairS.b := funext fun α => congrFun (Classical.choose_spec laws_heldPairS.ex) α

/-- loop.example/pinfold/laws.heldBox -/
noncomputable def laws_heldBox.b {α : Type} (N : Nat) (a326 : (List (Int × Int × Unit)) × Unit) (a327 : Int) (k0 : Int → Option α) : Option α :=
  laws_heldPairS N a326.1 a327
    (fun x344 =>
      let x345 := (decide (x344 < (0 : Int)))
      bif x345 then
        k0 (-1 : Int)
      else
        k0 x344)
theorem laws_heldBox.ex : ∃ f : ((α : Type) → Nat → ((List (Int × Int × Unit)) × Unit) → Int → (Int → Option α) → Option α), f = fun α => @laws_heldBox.b α := ⟨_, rfl⟩
noncomputable def laws_heldBox {α : Type} : Nat → ((List (Int × Int × Unit)) × Unit) → Int → (Int → Option α) → Option α := Classical.choose laws_heldBox.ex α
theorem laws_heldBox.eq : @laws_heldBox = @laws_heldBox.b := funext fun α => congrFun (Classical.choose_spec laws_heldBox.ex) α

/-- loop.example/pinfold/laws.FnExactBoxSplit -/
noncomputable def laws_FnExactBoxSplit.b {α : Type} (N : Nat) (a1 : Int) (a2 : (List (Int × Int × Unit)) × Unit) (a3 : Int) (k0 : Bool → Option α) : Option α :=
  laws_szBox N a2 (1048576 : Int)
    (fun x13 =>
      let x14 := (decide (x13 < (0 : Int)))
      bif x14 then
        k0 true
      else
        laws_toBox N a2
          (fun x32 =>
            spec_BoxSplit N a1 (x32, ()) a3
              (fun x141 x142 x143 =>
                laws_toBox N a2
                  (fun x144 =>
                    impl_BoxSplit N a1 (x144, ()) a3
                      (fun x259 x260 x261 =>
                        laws_eqBox N (x260, ()) x141
                          (fun x286 =>
                            let x287 := !x286
                            bif x287 then
                              k0 false
                            else
                              laws_eqBox N (x261, ()) x142
                                (fun x288 =>
                                  let x289 := !x288
                                  bif x289 then
                                    k0 false
                                  else
                                    let x290 := !(x259 == x143)
                                    bif x290 then
                                      k0 false
                                    else
                                      laws_toBox N a2
                                        (fun x291 =>
                                          laws_eqBox N (x144, ()) (x291, ())
                                            (fun x292 =>
                                              let x293 := !x292
                                              bif x293 then
                                                k0 false
                                              else
                                                laws_markBox N (1 : Int) x144
                                                  (fun x314 _ =>
                                                    let x316 := (decide (x314 < (0 : Int)))
                                                    bif x316 then
                                                      k0 false
                                                    else
                                                      laws_eqBox N (x260, ()) x141
                                                        (fun x317 =>
                                                          let x318 := !x317
                                                          bif x318 then
                                                            k0 false
                                                          else
                                                            laws_eqBox N (x261, ()) x142
                                                              (fun x319 =>
                                                                let x320 := !x319
                                                                bif x320 then
                                                                  k0 false
                                                                else
                                                                  let x321 := !(x259 == x143)
                                                                  bif x321 then
                                                                    k0 false
                                                                  else
                                                                    laws_markBox N (1 : Int) x260
                                                                      (fun x322 x323 =>
                                                                        laws_markBox N x322 x261
                                                                          (fun x324 x325 =>
                                                                            laws_heldBox N (x323, ()) (1 : Int)
                                                                              (fun x346 =>
                                                                                let x347 := (decide (x346 < (0 : Int)))
                                                                                bif x347 then
                                                                                  k0 false
                                                                                else
                                                                                  laws_heldBox N (x325, ()) x346
                                                                                    (fun x348 =>
                                                                                      let x349 := (decide (x348 < (0 : Int)))
                                                                                      bif x349 then
                                                                                        k0 false
                                                                                      else
                                                                                        let x350 := !(decide (x348 = x324))
                                                                                        bif x350 then
                                                                                          k0 false
                                                                                        else
                                                                                          laws_toBox N a2
                                                                                            (fun x351 =>
                                                                                              impl_BoxSplit N a1 (x351, ()) a3
                                                                                                (fun x352 x353 x354 =>
                                                                                                  laws_eqBox N (x353, ()) x141
                                                                                                    (fun x355 =>
                                                                                                      let x356 := !x355
                                                                                                      bif x356 then
                                                                                                        k0 false
                                                                                                      else
                                                                                                        laws_eqBox N (x354, ()) x142
                                                                                                          (fun x357 =>
                                                                                                            let x358 := !x357
                                                                                                            bif x358 then
                                                                                                              k0 false
                                                                                                            else
                                                                                                              let x359 := !(x352 == x143)
                                                                                                              bif x359 then
                                                                                                                k0 false
                                                                                                              else
                                                                                                                laws_heldBox N (x323, ()) (1 : Int)
                                                                                                                  (fun x360 =>
                                                                                                                    let x361 := (decide (x360 < (0 : Int)))
                                                                                                                    bif x361 then
                                                                                                                      k0 false
                                                                                                                    else
                                                                                                                      laws_heldBox N (x325, ()) x360
                                                                                                                        (fun x362 =>
                                                                                                                          let x363 := (decide (x362 < (0 : Int)))
                                                                                                                          bif x363 then
                                                                                                                            k0 false
                                                                                                                          else
                                                                                                                            let x364 := !(decide (x362 = x324))
                                                                                                                            bif x364 then
                                                                                                                              k0 false
                                                                                                                            else
                                                                                                                              k0 true))))))))))))))))))))))
theorem laws_FnExactBoxSplit.ex : ∃ f : ((α : Type) → Nat → Int → ((List (Int × Int × Unit)) × Unit) → Int → (Bool → Option α) → Option α), f = fun α => @laws_FnExactBoxSplit.b α := ⟨_, rfl⟩
noncomputable def laws_FnExactBoxSplit {α : Type} : Nat → Int → ((List (Int × Int × Unit)) × Unit) → Int → (Bool → Option α) → Option α := Classical.choose laws_FnExactBoxSplit.ex α
theorem laws_FnExactBoxSplit.eq : @laws_FnExactBoxSplit = @laws_FnExactBoxSplit.b := funext fun α => congrFun (Classical.choose_spec laws_FnExactBoxSplit.ex) α

end
end Go.Proofs.YtaelbfbplamahaaAm
