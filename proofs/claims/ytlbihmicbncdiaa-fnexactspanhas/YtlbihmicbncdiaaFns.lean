/-
  The functions that the program computes, as the abstract machine tells them. Printed by amp.py.
-/
import Derived.Test.YtlbihmicbncdiaaAmb
namespace Go.Proofs.YtlbihmicbncdiaaAm
open Go
noncomputable section
set_option linter.unusedVariables false
set_option linter.unusedSimpArgs false

/-- loop.example/pinfold/laws.szIntS -/
noncomputable def laws_szIntS.b {α : Type} (N : Nat) (a6 : List Int) (a7 : Int) (k0 : Int → Option α) : Option α :=
  let x8 := ((a6.length : Nat) : Int)
  let x9 := IntKind.i64.wrap (a7 - x8)
  let x10 := (decide (x9 < (0 : Int)))
  bif x10 then
    k0 (-1 : Int)
  else
    k0 x9
theorem laws_szIntS.ex : ∃ f : ((α : Type) → Nat → List Int → Int → (Int → Option α) → Option α), f = fun α => @laws_szIntS.b α := ⟨_, rfl⟩
noncomputable def laws_szIntS {α : Type} : Nat → List Int → Int → (Int → Option α) → Option α := Classical.choose laws_szIntS.ex α
theorem laws_szIntS.eq : @laws_szIntS = @laws_szIntS.b := funext fun α => congrFun (Classical.choose_spec laws_szIntS.ex) α

/-- loop.example/pinfold/laws.szFrac -/
noncomputable def laws_szFrac.b {α : Type} (N : Nat) (a4 : Bool × (List Int) × (List Int) × Unit) (a5 : Int) (k0 : Int → Option α) : Option α :=
  laws_szIntS N a4.2.1 a5
    (fun x11 =>
      let x12 := (decide (x11 < (0 : Int)))
      bif x12 then
        k0 (-1 : Int)
      else
        laws_szIntS N a4.2.2.1 x11
          (fun x13 =>
            let x14 := (decide (x13 < (0 : Int)))
            bif x14 then
              k0 (-1 : Int)
            else
              k0 x13))
theorem laws_szFrac.ex : ∃ f : ((α : Type) → Nat → (Bool × (List Int) × (List Int) × Unit) → Int → (Int → Option α) → Option α), f = fun α => @laws_szFrac.b α := ⟨_, rfl⟩
noncomputable def laws_szFrac {α : Type} : Nat → (Bool × (List Int) × (List Int) × Unit) → Int → (Int → Option α) → Option α := Classical.choose laws_szFrac.ex α
theorem laws_szFrac.eq : @laws_szFrac = @laws_szFrac.b := funext fun α => congrFun (Classical.choose_spec laws_szFrac.ex) α

/-- loop.example/pinfold/laws.toSpan -/
noncomputable def laws_toSpan.b {α : Type} (N : Nat) (a17 : Bool × Int × Int × Unit) (k0 : (Bool × Int × Int × Unit) → Option α) : Option α :=
  k0 (a17.1, (a17.2.1, (a17.2.2.1, ())))
theorem laws_toSpan.ex : ∃ f : ((α : Type) → Nat → (Bool × Int × Int × Unit) → ((Bool × Int × Int × Unit) → Option α) → Option α), f = fun α => @laws_toSpan.b α := ⟨_, rfl⟩
noncomputable def laws_toSpan {α : Type} : Nat → (Bool × Int × Int × Unit) → ((Bool × Int × Int × Unit) → Option α) → Option α := Classical.choose laws_toSpan.ex α
theorem laws_toSpan.eq : @laws_toSpan = @laws_toSpan.b := funext fun α => congrFun (Classical.choose_spec laws_toSpan.ex) α

noncomputable def laws_toIntS_L0r {α : Type} (N : Nat) (next : List Int → Int → List Int → Option α) (k0 : List Int → Option α) (v23 : List Int) (v24 : Int) (v25 : List Int) : Option α :=
  let x26 := ((v23.length : Nat) : Int)
  let x27 := decide (v24 < x26)
  bif x27 then
    bif (decide (v24 < (0 : Int))) then
      none
    else
      match v23[v24.toNat]? with
      | some x28 =>
        bif (decide (v24 < (0 : Int))) then
          none
        else
          bif decide (v24.toNat < v25.length) then
            match v25[v24.toNat]? with
            | some x29 =>
              let x30 := v25.set v24.toNat x28
              let x31 := (IntKind.i64.wrap (v24 + (1 : Int)))
              next v23 x31 x30
            | none => none
          else
            none
      | none => none
  else
    k0 v25
noncomputable def laws_toIntS_L0.b {α : Type} (N n : Nat) (v23 : List Int) (v24 : Int) (v25 : List Int) (k0 : List Int → Option α) : Option α :=
  Nat.rec (motive := fun _ => List Int → Int → List Int → Option α) (fun _ _ _ => none) (fun _ next => laws_toIntS_L0r N next k0) n v23 v24 v25
theorem laws_toIntS_L0.ex : ∃ f : ((α : Type) → Nat → Nat → List Int → Int → List Int → (List Int → Option α) → Option α), f = fun α => @laws_toIntS_L0.b α := ⟨_, rfl⟩
noncomputable def laws_toIntS_L0 {α : Type} : Nat → Nat → List Int → Int → List Int → (List Int → Option α) → Option α := Classical.choose laws_toIntS_L0.ex α
theorem laws_toIntS_L0.eq : @laws_toIntS_L0 = @laws_toIntS_L0.b := funext fun α => congrFun (Classical.choose_spec laws_toIntS_L0.ex) α
theorem laws_toIntS_L0.zero {α : Type} (N : Nat) (v23 : List Int) (v24 : Int) (v25 : List Int) (k0 : List Int → Option α) : laws_toIntS_L0 N 0 v23 v24 v25 k0 = none := by rw [laws_toIntS_L0.eq]; rfl
theorem laws_toIntS_L0.succ {α : Type} (N n : Nat) (v23 : List Int) (v24 : Int) (v25 : List Int) (k0 : List Int → Option α) : laws_toIntS_L0 N (n + 1) v23 v24 v25 k0 = laws_toIntS_L0r N (fun y0 y1 y2 => laws_toIntS_L0 N n y0 y1 y2 k0) k0 v23 v24 v25 := by rw [laws_toIntS_L0.eq]; rfl
/-- loop.example/pinfold/laws.toIntS -/
noncomputable def laws_toIntS.b {α : Type} (N : Nat) (a20 : List Int) (k0 : List Int → Option α) : Option α :=
  let x21 := ((a20.length : Nat) : Int)
  bif (decide ((0 : Int) ≤ x21)) then
    bif decide (x21 ≤ x21) then
      bif (decide (x21 ≤ ((8796093022208 : Nat) : Int))) then
        let x22 := (List.replicate x21.toNat (0 : Int))
        laws_toIntS_L0 N N a20 (0 : Int) x22
          (fun x32 =>
            k0 x32)
      else
        none
    else
      none
  else
    none
theorem laws_toIntS.ex : ∃ f : ((α : Type) → Nat → List Int → (List Int → Option α) → Option α), f = fun α => @laws_toIntS.b α := ⟨_, rfl⟩
noncomputable def laws_toIntS {α : Type} : Nat → List Int → (List Int → Option α) → Option α := Classical.choose laws_toIntS.ex α
theorem laws_toIntS.eq : @laws_toIntS = @laws_toIntS.b := funext fun α => congrFun (Classical.choose_spec laws_toIntS.ex) α

/-- loop.example/pinfold/laws.toFrac -/
noncomputable def laws_toFrac.b {α : Type} (N : Nat) (a19 : Bool × (List Int) × (List Int) × Unit) (k0 : Bool → List Int → List Int → Option α) : Option α :=
  laws_toIntS N a19.2.1
    (fun x33 =>
      laws_toIntS N a19.2.2.1
        (fun x34 =>
          k0 a19.1 x33 x34))
theorem laws_toFrac.ex : ∃ f : ((α : Type) → Nat → (Bool × (List Int) × (List Int) × Unit) → (Bool → List Int → List Int → Option α) → Option α), f = fun α => @laws_toFrac.b α := ⟨_, rfl⟩
noncomputable def laws_toFrac {α : Type} : Nat → (Bool × (List Int) × (List Int) × Unit) → (Bool → List Int → List Int → Option α) → Option α := Classical.choose laws_toFrac.ex α
theorem laws_toFrac.eq : @laws_toFrac = @laws_toFrac.b := funext fun α => congrFun (Classical.choose_spec laws_toFrac.ex) α

/-- loop.example/pinfold/spec.l9Pair -/
noncomputable def spec_l9Pair.b {α : Type} (N : Nat) (a41 : Bool × Int × Int × Unit) (k0 : (Int × Int × Unit) → Option α) : Option α :=
  k0 (a41.2.1, (a41.2.2.1, ()))
theorem spec_l9Pair.ex : ∃ f : ((α : Type) → Nat → (Bool × Int × Int × Unit) → ((Int × Int × Unit) → Option α) → Option α), f = fun α => @spec_l9Pair.b α := ⟨_, rfl⟩
noncomputable def spec_l9Pair {α : Type} : Nat → (Bool × Int × Int × Unit) → ((Int × Int × Unit) → Option α) → Option α := Classical.choose spec_l9Pair.ex α
theorem spec_l9Pair.eq : @spec_l9Pair = @spec_l9Pair.b := funext fun α => congrFun (Classical.choose_spec spec_l9Pair.ex) α

/-- loop.example/pinfold/spec.BitTop -/
noncomputable def spec_BitTop.b {α : Type} (N : Nat) (a48 : Int) (k0 : Int → Option α) : Option α :=
  let x49 := (decide (a48 = (32 : Int)))
  bif x49 then
    k0 (2139095040 : Int)
  else
    let x50 := (decide (a48 = (64 : Int)))
    bif x50 then
      k0 (9218868437227405312 : Int)
    else
      k0 (0 : Int)
theorem spec_BitTop.ex : ∃ f : ((α : Type) → Nat → Int → (Int → Option α) → Option α), f = fun α => @spec_BitTop.b α := ⟨_, rfl⟩
noncomputable def spec_BitTop {α : Type} : Nat → Int → (Int → Option α) → Option α := Classical.choose spec_BitTop.ex α
theorem spec_BitTop.eq : @spec_BitTop = @spec_BitTop.b := funext fun α => congrFun (Classical.choose_spec spec_BitTop.ex) α

/-- loop.example/pinfold/spec.l1Width -/
noncomputable def spec_l1Width.b {α : Type} (N : Nat) (a54 : Int) (k0 : Bool → Option α) : Option α :=
  let x55 := (decide (a54 = (32 : Int)))
  bif x55 then
    k0 true
  else
    let x56 := (decide (a54 = (64 : Int)))
    k0 x56
theorem spec_l1Width.ex : ∃ f : ((α : Type) → Nat → Int → (Bool → Option α) → Option α), f = fun α => @spec_l1Width.b α := ⟨_, rfl⟩
noncomputable def spec_l1Width {α : Type} : Nat → Int → (Bool → Option α) → Option α := Classical.choose spec_l1Width.ex α
theorem spec_l1Width.eq : @spec_l1Width = @spec_l1Width.b := funext fun α => congrFun (Classical.choose_spec spec_l1Width.ex) α

/-- loop.example/pinfold/spec.BitOk -/
noncomputable def spec_BitOk.b {α : Type} (N : Nat) (a52 : Int) (a53 : Int) (k0 : Bool → Option α) : Option α :=
  spec_l1Width N a52
    (fun x57 =>
      bif x57 then
        spec_BitTop N a52
          (fun x58 =>
            let x59 := IntKind.i64.wrap (0 - x58)
            let x60 := decide (x59 ≤ a53)
            bif x60 then
              spec_BitTop N a52
                (fun x61 =>
                  let x62 := decide (a53 ≤ x61)
                  k0 x62)
            else
              k0 false)
      else
        k0 false)
theorem spec_BitOk.ex : ∃ f : ((α : Type) → Nat → Int → Int → (Bool → Option α) → Option α), f = fun α => @spec_BitOk.b α := ⟨_, rfl⟩
noncomputable def spec_BitOk {α : Type} : Nat → Int → Int → (Bool → Option α) → Option α := Classical.choose spec_BitOk.ex α
theorem spec_BitOk.eq : @spec_BitOk = @spec_BitOk.b := funext fun α => congrFun (Classical.choose_spec spec_BitOk.ex) α

/-- loop.example/pinfold/spec.PairOk -/
noncomputable def spec_PairOk.b {α : Type} (N : Nat) (a46 : Int) (a47 : Int × Int × Unit) (k0 : Bool → Option α) : Option α :=
  spec_BitTop N a46
    (fun x51 =>
      spec_BitOk N a46 a47.1
        (fun x63 =>
          bif x63 then
            spec_BitOk N a46 a47.2.1
              (fun x64 =>
                bif x64 then
                  let x65 := decide (a47.1 ≤ a47.2.1)
                  bif x65 then
                    let x66 := decide (a47.1 < x51)
                    bif x66 then
                      let x67 := IntKind.i64.wrap (0 - x51)
                      let x68 := decide (x67 < a47.2.1)
                      k0 x68
                    else
                      k0 false
                  else
                    k0 false
                else
                  k0 false)
          else
            k0 false))
theorem spec_PairOk.ex : ∃ f : ((α : Type) → Nat → Int → (Int × Int × Unit) → (Bool → Option α) → Option α), f = fun α => @spec_PairOk.b α := ⟨_, rfl⟩
noncomputable def spec_PairOk {α : Type} : Nat → Int → (Int × Int × Unit) → (Bool → Option α) → Option α := Classical.choose spec_PairOk.ex α
theorem spec_PairOk.eq : @spec_PairOk = @spec_PairOk.b := funext fun α => congrFun (Classical.choose_spec spec_PairOk.ex) α

noncomputable def spec_NatOk_L0r {α : Type} (N : Nat) (next : List Int → Int → Option α) (k0 : Bool → Option α) (k1 : List Int → Option α) (v75 : List Int) (v76 : Int) : Option α :=
  let x77 := ((v75.length : Nat) : Int)
  let x78 := decide (v76 < x77)
  bif x78 then
    bif (decide (v76 < (0 : Int))) then
      none
    else
      match v75[v76.toNat]? with
      | some x79 =>
        let x80 := (decide (x79 < (0 : Int)))
        bif x80 then
          k0 false
        else
          bif (decide (v76 < (0 : Int))) then
            none
          else
            match v75[v76.toNat]? with
            | some x81 =>
              let x82 := (decide ((65536 : Int) ≤ x81))
              bif x82 then
                k0 false
              else
                let x83 := (IntKind.i64.wrap (v76 + (1 : Int)))
                next v75 x83
            | none => none
      | none => none
  else
    k1 v75
noncomputable def spec_NatOk_L0.b {α : Type} (N n : Nat) (v75 : List Int) (v76 : Int) (k0 : Bool → Option α) (k1 : List Int → Option α) : Option α :=
  Nat.rec (motive := fun _ => List Int → Int → Option α) (fun _ _ => none) (fun _ next => spec_NatOk_L0r N next k0 k1) n v75 v76
theorem spec_NatOk_L0.ex : ∃ f : ((α : Type) → Nat → Nat → List Int → Int → (Bool → Option α) → (List Int → Option α) → Option α), f = fun α => @spec_NatOk_L0.b α := ⟨_, rfl⟩
noncomputable def spec_NatOk_L0 {α : Type} : Nat → Nat → List Int → Int → (Bool → Option α) → (List Int → Option α) → Option α := Classical.choose spec_NatOk_L0.ex α
theorem spec_NatOk_L0.eq : @spec_NatOk_L0 = @spec_NatOk_L0.b := funext fun α => congrFun (Classical.choose_spec spec_NatOk_L0.ex) α
theorem spec_NatOk_L0.zero {α : Type} (N : Nat) (v75 : List Int) (v76 : Int) (k0 : Bool → Option α) (k1 : List Int → Option α) : spec_NatOk_L0 N 0 v75 v76 k0 k1 = none := by rw [spec_NatOk_L0.eq]; rfl
theorem spec_NatOk_L0.succ {α : Type} (N n : Nat) (v75 : List Int) (v76 : Int) (k0 : Bool → Option α) (k1 : List Int → Option α) : spec_NatOk_L0 N (n + 1) v75 v76 k0 k1 = spec_NatOk_L0r N (fun y0 y1 => spec_NatOk_L0 N n y0 y1 k0 k1) k0 k1 v75 v76 := by rw [spec_NatOk_L0.eq]; rfl
/-- loop.example/pinfold/spec.NatOk -/
noncomputable def spec_NatOk.b {α : Type} (N : Nat) (a72 : List Int) (k0 : Bool → Option α) : Option α :=
  let x73 := ((a72.length : Nat) : Int)
  let x74 := (decide ((256 : Int) < x73))
  bif x74 then
    k0 false
  else
    spec_NatOk_L0 N N a72 (0 : Int)
      (fun x84 =>
        k0 x84)
      (fun x85 =>
        let x86 := ((x85.length : Nat) : Int)
        let x87 := (decide (x86 = (0 : Int)))
        bif x87 then
          k0 true
        else
          let x88 := ((x85.length : Nat) : Int)
          let x89 := (IntKind.i64.wrap (x88 - (1 : Int)))
          bif (decide (x89 < (0 : Int))) then
            none
          else
            match x85[x89.toNat]? with
            | some x90 =>
              let x91 := (!(decide (x90 = (0 : Int))))
              k0 x91
            | none => none)
theorem spec_NatOk.ex : ∃ f : ((α : Type) → Nat → List Int → (Bool → Option α) → Option α), f = fun α => @spec_NatOk.b α := ⟨_, rfl⟩
noncomputable def spec_NatOk {α : Type} : Nat → List Int → (Bool → Option α) → Option α := Classical.choose spec_NatOk.ex α
theorem spec_NatOk.eq : @spec_NatOk = @spec_NatOk.b := funext fun α => congrFun (Classical.choose_spec spec_NatOk.ex) α

noncomputable def spec_l5Trim_L0r {α : Type} (N : Nat) (next : List Int → Int → Option α) (k0 : List Int → Int → Option α) (v104 : List Int) (v105 : Int) : Option α :=
  let x106 := (decide ((0 : Int) < v105))
  bif x106 then
    let x107 := (IntKind.i64.wrap (v105 - (1 : Int)))
    bif (decide (x107 < (0 : Int))) then
      none
    else
      match v104[x107.toNat]? with
      | some x108 =>
        let x109 := (decide (x108 = (0 : Int)))
        bif x109 then
          let x110 := (IntKind.i64.wrap (v105 - (1 : Int)))
          next v104 x110
        else
          k0 v104 v105
      | none => none
  else
    k0 v104 v105
noncomputable def spec_l5Trim_L0.b {α : Type} (N n : Nat) (v104 : List Int) (v105 : Int) (k0 : List Int → Int → Option α) : Option α :=
  Nat.rec (motive := fun _ => List Int → Int → Option α) (fun _ _ => none) (fun _ next => spec_l5Trim_L0r N next k0) n v104 v105
theorem spec_l5Trim_L0.ex : ∃ f : ((α : Type) → Nat → Nat → List Int → Int → (List Int → Int → Option α) → Option α), f = fun α => @spec_l5Trim_L0.b α := ⟨_, rfl⟩
noncomputable def spec_l5Trim_L0 {α : Type} : Nat → Nat → List Int → Int → (List Int → Int → Option α) → Option α := Classical.choose spec_l5Trim_L0.ex α
theorem spec_l5Trim_L0.eq : @spec_l5Trim_L0 = @spec_l5Trim_L0.b := funext fun α => congrFun (Classical.choose_spec spec_l5Trim_L0.ex) α
theorem spec_l5Trim_L0.zero {α : Type} (N : Nat) (v104 : List Int) (v105 : Int) (k0 : List Int → Int → Option α) : spec_l5Trim_L0 N 0 v104 v105 k0 = none := by rw [spec_l5Trim_L0.eq]; rfl
theorem spec_l5Trim_L0.succ {α : Type} (N n : Nat) (v104 : List Int) (v105 : Int) (k0 : List Int → Int → Option α) : spec_l5Trim_L0 N (n + 1) v104 v105 k0 = spec_l5Trim_L0r N (fun y0 y1 => spec_l5Trim_L0 N n y0 y1 k0) k0 v104 v105 := by rw [spec_l5Trim_L0.eq]; rfl
noncomputable def spec_l5Trim_L2r {α : Type} (N : Nat) (next : List Int → Int → Int → List Int → Option α) (k0 : List Int → Option α) (v113 : List Int) (v114 : Int) (v115 : Int) (v116 : List Int) : Option α :=
  let x117 := decide (v115 < v114)
  bif x117 then
    bif (decide (v115 < (0 : Int))) then
      none
    else
      match v113[v115.toNat]? with
      | some x118 =>
        let x119 := [x118]
        bif decide (v116.length + x119.length ≤ 8796093022208) then
          let x120 := v116 ++ x119
          let x121 := (IntKind.i64.wrap (v115 + (1 : Int)))
          next v113 v114 x121 x120
        else
          none
      | none => none
  else
    k0 v116
noncomputable def spec_l5Trim_L2.b {α : Type} (N n : Nat) (v113 : List Int) (v114 : Int) (v115 : Int) (v116 : List Int) (k0 : List Int → Option α) : Option α :=
  Nat.rec (motive := fun _ => List Int → Int → Int → List Int → Option α) (fun _ _ _ _ => none) (fun _ next => spec_l5Trim_L2r N next k0) n v113 v114 v115 v116
theorem spec_l5Trim_L2.ex : ∃ f : ((α : Type) → Nat → Nat → List Int → Int → Int → List Int → (List Int → Option α) → Option α), f = fun α => @spec_l5Trim_L2.b α := ⟨_, rfl⟩
noncomputable def spec_l5Trim_L2 {α : Type} : Nat → Nat → List Int → Int → Int → List Int → (List Int → Option α) → Option α := Classical.choose spec_l5Trim_L2.ex α
theorem spec_l5Trim_L2.eq : @spec_l5Trim_L2 = @spec_l5Trim_L2.b := funext fun α => congrFun (Classical.choose_spec spec_l5Trim_L2.ex) α
theorem spec_l5Trim_L2.zero {α : Type} (N : Nat) (v113 : List Int) (v114 : Int) (v115 : Int) (v116 : List Int) (k0 : List Int → Option α) : spec_l5Trim_L2 N 0 v113 v114 v115 v116 k0 = none := by rw [spec_l5Trim_L2.eq]; rfl
theorem spec_l5Trim_L2.succ {α : Type} (N n : Nat) (v113 : List Int) (v114 : Int) (v115 : Int) (v116 : List Int) (k0 : List Int → Option α) : spec_l5Trim_L2 N (n + 1) v113 v114 v115 v116 k0 = spec_l5Trim_L2r N (fun y0 y1 y2 y3 => spec_l5Trim_L2 N n y0 y1 y2 y3 k0) k0 v113 v114 v115 v116 := by rw [spec_l5Trim_L2.eq]; rfl
/-- loop.example/pinfold/spec.l5Trim -/
noncomputable def spec_l5Trim.b {α : Type} (N : Nat) (a102 : List Int) (k0 : List Int → Option α) : Option α :=
  let x103 := ((a102.length : Nat) : Int)
  spec_l5Trim_L0 N N a102 x103
    (fun x111 x112 =>
      spec_l5Trim_L2 N N x111 x112 (0 : Int) []
        (fun x122 =>
          k0 x122))
theorem spec_l5Trim.ex : ∃ f : ((α : Type) → Nat → List Int → (List Int → Option α) → Option α), f = fun α => @spec_l5Trim.b α := ⟨_, rfl⟩
noncomputable def spec_l5Trim {α : Type} : Nat → List Int → (List Int → Option α) → Option α := Classical.choose spec_l5Trim.ex α
theorem spec_l5Trim.eq : @spec_l5Trim = @spec_l5Trim.b := funext fun α => congrFun (Classical.choose_spec spec_l5Trim.ex) α

noncomputable def spec_l5Cmp_L0r {α : Type} (N : Nat) (next : List Int → List Int → Int → Option α) (k0 : Int → Option α) (k1 : Option α) (v141 : List Int) (v142 : List Int) (v143 : Int) : Option α :=
  let x144 := (decide ((0 : Int) ≤ v143))
  bif x144 then
    bif (decide (v143 < (0 : Int))) then
      none
    else
      match v141[v143.toNat]? with
      | some x145 =>
        bif (decide (v143 < (0 : Int))) then
          none
        else
          match v142[v143.toNat]? with
          | some x146 =>
            let x147 := decide (x145 < x146)
            bif x147 then
              k0 (-1 : Int)
            else
              bif (decide (v143 < (0 : Int))) then
                none
              else
                match v141[v143.toNat]? with
                | some x148 =>
                  bif (decide (v143 < (0 : Int))) then
                    none
                  else
                    match v142[v143.toNat]? with
                    | some x149 =>
                      let x150 := decide (x149 < x148)
                      bif x150 then
                        k0 (1 : Int)
                      else
                        let x151 := (IntKind.i64.wrap (v143 - (1 : Int)))
                        next v141 v142 x151
                    | none => none
                | none => none
          | none => none
      | none => none
  else
    k1
noncomputable def spec_l5Cmp_L0.b {α : Type} (N n : Nat) (v141 : List Int) (v142 : List Int) (v143 : Int) (k0 : Int → Option α) (k1 : Option α) : Option α :=
  Nat.rec (motive := fun _ => List Int → List Int → Int → Option α) (fun _ _ _ => none) (fun _ next => spec_l5Cmp_L0r N next k0 k1) n v141 v142 v143
theorem spec_l5Cmp_L0.ex : ∃ f : ((α : Type) → Nat → Nat → List Int → List Int → Int → (Int → Option α) → (Option α) → Option α), f = fun α => @spec_l5Cmp_L0.b α := ⟨_, rfl⟩
noncomputable def spec_l5Cmp_L0 {α : Type} : Nat → Nat → List Int → List Int → Int → (Int → Option α) → (Option α) → Option α := Classical.choose spec_l5Cmp_L0.ex α
theorem spec_l5Cmp_L0.eq : @spec_l5Cmp_L0 = @spec_l5Cmp_L0.b := funext fun α => congrFun (Classical.choose_spec spec_l5Cmp_L0.ex) α
theorem spec_l5Cmp_L0.zero {α : Type} (N : Nat) (v141 : List Int) (v142 : List Int) (v143 : Int) (k0 : Int → Option α) (k1 : Option α) : spec_l5Cmp_L0 N 0 v141 v142 v143 k0 k1 = none := by rw [spec_l5Cmp_L0.eq]; rfl
theorem spec_l5Cmp_L0.succ {α : Type} (N n : Nat) (v141 : List Int) (v142 : List Int) (v143 : Int) (k0 : Int → Option α) (k1 : Option α) : spec_l5Cmp_L0 N (n + 1) v141 v142 v143 k0 k1 = spec_l5Cmp_L0r N (fun y0 y1 y2 => spec_l5Cmp_L0 N n y0 y1 y2 k0 k1) k0 k1 v141 v142 v143 := by rw [spec_l5Cmp_L0.eq]; rfl
/-- loop.example/pinfold/spec.l5Cmp -/
noncomputable def spec_l5Cmp.b {α : Type} (N : Nat) (a131 : List Int) (a132 : List Int) (k0 : Int → Option α) : Option α :=
  let x133 := ((a131.length : Nat) : Int)
  let x134 := ((a132.length : Nat) : Int)
  let x135 := decide (x133 < x134)
  bif x135 then
    k0 (-1 : Int)
  else
    let x136 := ((a131.length : Nat) : Int)
    let x137 := ((a132.length : Nat) : Int)
    let x138 := decide (x137 < x136)
    bif x138 then
      k0 (1 : Int)
    else
      let x139 := ((a131.length : Nat) : Int)
      let x140 := (IntKind.i64.wrap (x139 - (1 : Int)))
      spec_l5Cmp_L0 N N a131 a132 x140
        (fun x152 =>
          k0 x152)
        (
          k0 (0 : Int))
theorem spec_l5Cmp.ex : ∃ f : ((α : Type) → Nat → List Int → List Int → (Int → Option α) → Option α), f = fun α => @spec_l5Cmp.b α := ⟨_, rfl⟩
noncomputable def spec_l5Cmp {α : Type} : Nat → List Int → List Int → (Int → Option α) → Option α := Classical.choose spec_l5Cmp.ex α
theorem spec_l5Cmp.eq : @spec_l5Cmp = @spec_l5Cmp.b := funext fun α => congrFun (Classical.choose_spec spec_l5Cmp.ex) α

noncomputable def spec_l5DivSmall_L0r {α : Type} (N : Nat) (next : List Int → Int → Int → Int → List Int → Option α) (k0 : Int → List Int → Option α) (v165 : List Int) (v166 : Int) (v167 : Int) (v168 : Int) (v169 : List Int) : Option α :=
  let x170 := (decide ((0 : Int) ≤ v168))
  bif x170 then
    let x171 := (IntKind.i64.wrap (v167 * (65536 : Int)))
    bif (decide (v168 < (0 : Int))) then
      none
    else
      match v165[v168.toNat]? with
      | some x172 =>
        let x173 := IntKind.i64.wrap (x171 + x172)
        bif (decide (v166 = (0 : Int))) then
          none
        else
          let x174 := IntKind.i64.wrap (Int.tdiv x173 v166)
          bif (decide (v168 < (0 : Int))) then
            none
          else
            bif decide (v168.toNat < v169.length) then
              match v169[v168.toNat]? with
              | some x175 =>
                let x176 := v169.set v168.toNat x174
                bif (decide (v166 = (0 : Int))) then
                  none
                else
                  let x177 := Int.tmod x173 v166
                  let x178 := (IntKind.i64.wrap (v168 - (1 : Int)))
                  next v165 v166 x177 x178 x176
              | none => none
            else
              none
      | none => none
  else
    k0 v167 v169
noncomputable def spec_l5DivSmall_L0.b {α : Type} (N n : Nat) (v165 : List Int) (v166 : Int) (v167 : Int) (v168 : Int) (v169 : List Int) (k0 : Int → List Int → Option α) : Option α :=
  Nat.rec (motive := fun _ => List Int → Int → Int → Int → List Int → Option α) (fun _ _ _ _ _ => none) (fun _ next => spec_l5DivSmall_L0r N next k0) n v165 v166 v167 v168 v169
theorem spec_l5DivSmall_L0.ex : ∃ f : ((α : Type) → Nat → Nat → List Int → Int → Int → Int → List Int → (Int → List Int → Option α) → Option α), f = fun α => @spec_l5DivSmall_L0.b α := ⟨_, rfl⟩
noncomputable def spec_l5DivSmall_L0 {α : Type} : Nat → Nat → List Int → Int → Int → Int → List Int → (Int → List Int → Option α) → Option α := Classical.choose spec_l5DivSmall_L0.ex α
theorem spec_l5DivSmall_L0.eq : @spec_l5DivSmall_L0 = @spec_l5DivSmall_L0.b := funext fun α => congrFun (Classical.choose_spec spec_l5DivSmall_L0.ex) α
theorem spec_l5DivSmall_L0.zero {α : Type} (N : Nat) (v165 : List Int) (v166 : Int) (v167 : Int) (v168 : Int) (v169 : List Int) (k0 : Int → List Int → Option α) : spec_l5DivSmall_L0 N 0 v165 v166 v167 v168 v169 k0 = none := by rw [spec_l5DivSmall_L0.eq]; rfl
theorem spec_l5DivSmall_L0.succ {α : Type} (N n : Nat) (v165 : List Int) (v166 : Int) (v167 : Int) (v168 : Int) (v169 : List Int) (k0 : Int → List Int → Option α) : spec_l5DivSmall_L0 N (n + 1) v165 v166 v167 v168 v169 k0 = spec_l5DivSmall_L0r N (fun y0 y1 y2 y3 y4 => spec_l5DivSmall_L0 N n y0 y1 y2 y3 y4 k0) k0 v165 v166 v167 v168 v169 := by rw [spec_l5DivSmall_L0.eq]; rfl
/-- loop.example/pinfold/spec.l5DivSmall -/
noncomputable def spec_l5DivSmall.b {α : Type} (N : Nat) (a159 : List Int) (a160 : Int) (k0 : Int → List Int → Option α) : Option α :=
  let x161 := ((a159.length : Nat) : Int)
  bif (decide ((0 : Int) ≤ x161)) then
    bif decide (x161 ≤ x161) then
      bif (decide (x161 ≤ ((8796093022208 : Nat) : Int))) then
        let x162 := (List.replicate x161.toNat (0 : Int))
        let x163 := ((a159.length : Nat) : Int)
        let x164 := (IntKind.i64.wrap (x163 - (1 : Int)))
        spec_l5DivSmall_L0 N N a159 a160 (0 : Int) x164 x162
          (fun x179 x180 =>
            spec_l5Trim N x180
              (fun x181 =>
                k0 x179 x181))
      else
        none
    else
      none
  else
    none
theorem spec_l5DivSmall.ex : ∃ f : ((α : Type) → Nat → List Int → Int → (Int → List Int → Option α) → Option α), f = fun α => @spec_l5DivSmall.b α := ⟨_, rfl⟩
noncomputable def spec_l5DivSmall {α : Type} : Nat → List Int → Int → (Int → List Int → Option α) → Option α := Classical.choose spec_l5DivSmall.ex α
theorem spec_l5DivSmall.eq : @spec_l5DivSmall = @spec_l5DivSmall.b := funext fun α => congrFun (Classical.choose_spec spec_l5DivSmall.ex) α

noncomputable def spec_NatOf_L0r {α : Type} (N : Nat) (next : Int → List Int → Option α) (k0 : List Int → Option α) (v186 : Int) (v187 : List Int) : Option α :=
  let x188 := (decide ((0 : Int) < v186))
  bif x188 then
    let x189 := (Int.tmod v186 (65536 : Int))
    let x190 := IntKind.i64.wrap x189
    let x191 := [x190]
    bif decide (v187.length + x191.length ≤ 8796093022208) then
      let x192 := v187 ++ x191
      let x193 := (IntKind.u64.wrap (Int.tdiv v186 (65536 : Int)))
      next x193 x192
    else
      none
  else
    k0 v187
noncomputable def spec_NatOf_L0.b {α : Type} (N n : Nat) (v186 : Int) (v187 : List Int) (k0 : List Int → Option α) : Option α :=
  Nat.rec (motive := fun _ => Int → List Int → Option α) (fun _ _ => none) (fun _ next => spec_NatOf_L0r N next k0) n v186 v187
theorem spec_NatOf_L0.ex : ∃ f : ((α : Type) → Nat → Nat → Int → List Int → (List Int → Option α) → Option α), f = fun α => @spec_NatOf_L0.b α := ⟨_, rfl⟩
noncomputable def spec_NatOf_L0 {α : Type} : Nat → Nat → Int → List Int → (List Int → Option α) → Option α := Classical.choose spec_NatOf_L0.ex α
theorem spec_NatOf_L0.eq : @spec_NatOf_L0 = @spec_NatOf_L0.b := funext fun α => congrFun (Classical.choose_spec spec_NatOf_L0.ex) α
theorem spec_NatOf_L0.zero {α : Type} (N : Nat) (v186 : Int) (v187 : List Int) (k0 : List Int → Option α) : spec_NatOf_L0 N 0 v186 v187 k0 = none := by rw [spec_NatOf_L0.eq]; rfl
theorem spec_NatOf_L0.succ {α : Type} (N n : Nat) (v186 : Int) (v187 : List Int) (k0 : List Int → Option α) : spec_NatOf_L0 N (n + 1) v186 v187 k0 = spec_NatOf_L0r N (fun y0 y1 => spec_NatOf_L0 N n y0 y1 k0) k0 v186 v187 := by rw [spec_NatOf_L0.eq]; rfl
/-- loop.example/pinfold/spec.NatOf -/
noncomputable def spec_NatOf.b {α : Type} (N : Nat) (a185 : Int) (k0 : List Int → Option α) : Option α :=
  spec_NatOf_L0 N N a185 []
    (fun x194 =>
      k0 x194)
theorem spec_NatOf.ex : ∃ f : ((α : Type) → Nat → Int → (List Int → Option α) → Option α), f = fun α => @spec_NatOf.b α := ⟨_, rfl⟩
noncomputable def spec_NatOf {α : Type} : Nat → Int → (List Int → Option α) → Option α := Classical.choose spec_NatOf.ex α
theorem spec_NatOf.eq : @spec_NatOf = @spec_NatOf.b := funext fun α => congrFun (Classical.choose_spec spec_NatOf.ex) α

noncomputable def spec_l5Mul_L2r {α : Type} (N : Nat) (next : List Int → List Int → Int → Int → Int → List Int → Option α) (k0 : List Int → List Int → Int → Int → List Int → Option α) (v217 : List Int) (v218 : List Int) (v219 : Int) (v220 : Int) (v221 : Int) (v222 : List Int) : Option α :=
  let x223 := ((v218.length : Nat) : Int)
  let x224 := decide (v221 < x223)
  bif x224 then
    let x225 := IntKind.i64.wrap (v219 + v221)
    bif (decide (x225 < (0 : Int))) then
      none
    else
      bif decide (x225.toNat < v222.length) then
        match v222[x225.toNat]? with
        | some x226 =>
          bif (decide (v219 < (0 : Int))) then
            none
          else
            match v217[v219.toNat]? with
            | some x227 =>
              bif (decide (v221 < (0 : Int))) then
                none
              else
                match v218[v221.toNat]? with
                | some x228 =>
                  let x229 := IntKind.i64.wrap (x227 * x228)
                  let x230 := IntKind.i64.wrap (x226 + x229)
                  let x231 := IntKind.i64.wrap (x230 + v220)
                  let x232 := IntKind.i64.wrap (v219 + v221)
                  let x233 := (Int.tmod x231 (65536 : Int))
                  bif (decide (x232 < (0 : Int))) then
                    none
                  else
                    bif decide (x232.toNat < v222.length) then
                      match v222[x232.toNat]? with
                      | some x234 =>
                        let x235 := v222.set x232.toNat x233
                        let x236 := (IntKind.i64.wrap (Int.tdiv x231 (65536 : Int)))
                        let x237 := (IntKind.i64.wrap (v221 + (1 : Int)))
                        next v217 v218 v219 x236 x237 x235
                      | none => none
                    else
                      none
                | none => none
            | none => none
        | none => none
      else
        none
  else
    k0 v217 v218 v219 v220 v222
noncomputable def spec_l5Mul_L2.b {α : Type} (N n : Nat) (v217 : List Int) (v218 : List Int) (v219 : Int) (v220 : Int) (v221 : Int) (v222 : List Int) (k0 : List Int → List Int → Int → Int → List Int → Option α) : Option α :=
  Nat.rec (motive := fun _ => List Int → List Int → Int → Int → Int → List Int → Option α) (fun _ _ _ _ _ _ => none) (fun _ next => spec_l5Mul_L2r N next k0) n v217 v218 v219 v220 v221 v222
theorem spec_l5Mul_L2.ex : ∃ f : ((α : Type) → Nat → Nat → List Int → List Int → Int → Int → Int → List Int → (List Int → List Int → Int → Int → List Int → Option α) → Option α), f = fun α => @spec_l5Mul_L2.b α := ⟨_, rfl⟩
noncomputable def spec_l5Mul_L2 {α : Type} : Nat → Nat → List Int → List Int → Int → Int → Int → List Int → (List Int → List Int → Int → Int → List Int → Option α) → Option α := Classical.choose spec_l5Mul_L2.ex α
theorem spec_l5Mul_L2.eq : @spec_l5Mul_L2 = @spec_l5Mul_L2.b := funext fun α => congrFun (Classical.choose_spec spec_l5Mul_L2.ex) α
theorem spec_l5Mul_L2.zero {α : Type} (N : Nat) (v217 : List Int) (v218 : List Int) (v219 : Int) (v220 : Int) (v221 : Int) (v222 : List Int) (k0 : List Int → List Int → Int → Int → List Int → Option α) : spec_l5Mul_L2 N 0 v217 v218 v219 v220 v221 v222 k0 = none := by rw [spec_l5Mul_L2.eq]; rfl
theorem spec_l5Mul_L2.succ {α : Type} (N n : Nat) (v217 : List Int) (v218 : List Int) (v219 : Int) (v220 : Int) (v221 : Int) (v222 : List Int) (k0 : List Int → List Int → Int → Int → List Int → Option α) : spec_l5Mul_L2 N (n + 1) v217 v218 v219 v220 v221 v222 k0 = spec_l5Mul_L2r N (fun y0 y1 y2 y3 y4 y5 => spec_l5Mul_L2 N n y0 y1 y2 y3 y4 y5 k0) k0 v217 v218 v219 v220 v221 v222 := by rw [spec_l5Mul_L2.eq]; rfl
noncomputable def spec_l5Mul_L0r {α : Type} (N : Nat) (next : List Int → List Int → Int → List Int → Option α) (k0 : List Int → Option α) (v211 : List Int) (v212 : List Int) (v213 : Int) (v214 : List Int) : Option α :=
  let x215 := ((v211.length : Nat) : Int)
  let x216 := decide (v213 < x215)
  bif x216 then
    spec_l5Mul_L2 N N v211 v212 v213 (0 : Int) (0 : Int) v214
      (fun x238 x239 x240 x241 x242 =>
        let x243 := ((x239.length : Nat) : Int)
        let x244 := IntKind.i64.wrap (x240 + x243)
        bif (decide (x244 < (0 : Int))) then
          none
        else
          bif decide (x244.toNat < x242.length) then
            match x242[x244.toNat]? with
            | some x245 =>
              let x246 := x242.set x244.toNat x241
              let x247 := (IntKind.i64.wrap (x240 + (1 : Int)))
              next x238 x239 x247 x246
            | none => none
          else
            none)
  else
    k0 v214
noncomputable def spec_l5Mul_L0.b {α : Type} (N n : Nat) (v211 : List Int) (v212 : List Int) (v213 : Int) (v214 : List Int) (k0 : List Int → Option α) : Option α :=
  Nat.rec (motive := fun _ => List Int → List Int → Int → List Int → Option α) (fun _ _ _ _ => none) (fun _ next => spec_l5Mul_L0r N next k0) n v211 v212 v213 v214
theorem spec_l5Mul_L0.ex : ∃ f : ((α : Type) → Nat → Nat → List Int → List Int → Int → List Int → (List Int → Option α) → Option α), f = fun α => @spec_l5Mul_L0.b α := ⟨_, rfl⟩
noncomputable def spec_l5Mul_L0 {α : Type} : Nat → Nat → List Int → List Int → Int → List Int → (List Int → Option α) → Option α := Classical.choose spec_l5Mul_L0.ex α
theorem spec_l5Mul_L0.eq : @spec_l5Mul_L0 = @spec_l5Mul_L0.b := funext fun α => congrFun (Classical.choose_spec spec_l5Mul_L0.ex) α
theorem spec_l5Mul_L0.zero {α : Type} (N : Nat) (v211 : List Int) (v212 : List Int) (v213 : Int) (v214 : List Int) (k0 : List Int → Option α) : spec_l5Mul_L0 N 0 v211 v212 v213 v214 k0 = none := by rw [spec_l5Mul_L0.eq]; rfl
theorem spec_l5Mul_L0.succ {α : Type} (N n : Nat) (v211 : List Int) (v212 : List Int) (v213 : Int) (v214 : List Int) (k0 : List Int → Option α) : spec_l5Mul_L0 N (n + 1) v211 v212 v213 v214 k0 = spec_l5Mul_L0r N (fun y0 y1 y2 y3 => spec_l5Mul_L0 N n y0 y1 y2 y3 k0) k0 v211 v212 v213 v214 := by rw [spec_l5Mul_L0.eq]; rfl
/-- loop.example/pinfold/spec.l5Mul -/
noncomputable def spec_l5Mul.b {α : Type} (N : Nat) (a205 : List Int) (a206 : List Int) (k0 : List Int → Option α) : Option α :=
  let x207 := ((a205.length : Nat) : Int)
  let x208 := ((a206.length : Nat) : Int)
  let x209 := IntKind.i64.wrap (x207 + x208)
  bif (decide ((0 : Int) ≤ x209)) then
    bif decide (x209 ≤ x209) then
      bif (decide (x209 ≤ ((8796093022208 : Nat) : Int))) then
        let x210 := (List.replicate x209.toNat (0 : Int))
        spec_l5Mul_L0 N N a205 a206 (0 : Int) x210
          (fun x248 =>
            spec_l5Trim N x248
              (fun x249 =>
                k0 x249))
      else
        none
    else
      none
  else
    none
theorem spec_l5Mul.ex : ∃ f : ((α : Type) → Nat → List Int → List Int → (List Int → Option α) → Option α), f = fun α => @spec_l5Mul.b α := ⟨_, rfl⟩
noncomputable def spec_l5Mul {α : Type} : Nat → List Int → List Int → (List Int → Option α) → Option α := Classical.choose spec_l5Mul.ex α
theorem spec_l5Mul.eq : @spec_l5Mul = @spec_l5Mul.b := funext fun α => congrFun (Classical.choose_spec spec_l5Mul.ex) α

/-- loop.example/pinfold/spec.l5Times -/
noncomputable def spec_l5Times.b {α : Type} (N : Nat) (a201 : List Int) (a202 : Int) (k0 : List Int → Option α) : Option α :=
  let x203 := (decide (a202 = (0 : Int)))
  bif x203 then
    k0 []
  else
    let x204 := [a202]
    spec_l5Mul N a201 x204
      (fun x250 =>
        k0 x250)
theorem spec_l5Times.ex : ∃ f : ((α : Type) → Nat → List Int → Int → (List Int → Option α) → Option α), f = fun α => @spec_l5Times.b α := ⟨_, rfl⟩
noncomputable def spec_l5Times {α : Type} : Nat → List Int → Int → (List Int → Option α) → Option α := Classical.choose spec_l5Times.ex α
theorem spec_l5Times.eq : @spec_l5Times = @spec_l5Times.b := funext fun α => congrFun (Classical.choose_spec spec_l5Times.ex) α

noncomputable def spec_l5Top_L0r {α : Type} (N : Nat) (next : List Int → Int → List Int → Option α) (k0 : List Int → Option α) (v263 : List Int) (v264 : Int) (v265 : List Int) : Option α :=
  let x266 := ((v263.length : Nat) : Int)
  let x267 := decide (v264 < x266)
  bif x267 then
    bif (decide (v264 < (0 : Int))) then
      none
    else
      match v263[v264.toNat]? with
      | some x268 =>
        let x269 := [x268]
        bif decide (v265.length + x269.length ≤ 8796093022208) then
          let x270 := v265 ++ x269
          let x271 := (IntKind.i64.wrap (v264 + (1 : Int)))
          next v263 x271 x270
        else
          none
      | none => none
  else
    k0 v265
noncomputable def spec_l5Top_L0.b {α : Type} (N n : Nat) (v263 : List Int) (v264 : Int) (v265 : List Int) (k0 : List Int → Option α) : Option α :=
  Nat.rec (motive := fun _ => List Int → Int → List Int → Option α) (fun _ _ _ => none) (fun _ next => spec_l5Top_L0r N next k0) n v263 v264 v265
theorem spec_l5Top_L0.ex : ∃ f : ((α : Type) → Nat → Nat → List Int → Int → List Int → (List Int → Option α) → Option α), f = fun α => @spec_l5Top_L0.b α := ⟨_, rfl⟩
noncomputable def spec_l5Top_L0 {α : Type} : Nat → Nat → List Int → Int → List Int → (List Int → Option α) → Option α := Classical.choose spec_l5Top_L0.ex α
theorem spec_l5Top_L0.eq : @spec_l5Top_L0 = @spec_l5Top_L0.b := funext fun α => congrFun (Classical.choose_spec spec_l5Top_L0.ex) α
theorem spec_l5Top_L0.zero {α : Type} (N : Nat) (v263 : List Int) (v264 : Int) (v265 : List Int) (k0 : List Int → Option α) : spec_l5Top_L0 N 0 v263 v264 v265 k0 = none := by rw [spec_l5Top_L0.eq]; rfl
theorem spec_l5Top_L0.succ {α : Type} (N n : Nat) (v263 : List Int) (v264 : Int) (v265 : List Int) (k0 : List Int → Option α) : spec_l5Top_L0 N (n + 1) v263 v264 v265 k0 = spec_l5Top_L0r N (fun y0 y1 y2 => spec_l5Top_L0 N n y0 y1 y2 k0) k0 v263 v264 v265 := by rw [spec_l5Top_L0.eq]; rfl
/-- loop.example/pinfold/spec.l5Top -/
noncomputable def spec_l5Top.b {α : Type} (N : Nat) (a261 : List Int) (a262 : Int) (k0 : List Int → Option α) : Option α :=
  spec_l5Top_L0 N N a261 a262 []
    (fun x272 =>
      k0 x272)
theorem spec_l5Top.ex : ∃ f : ((α : Type) → Nat → List Int → Int → (List Int → Option α) → Option α), f = fun α => @spec_l5Top.b α := ⟨_, rfl⟩
noncomputable def spec_l5Top {α : Type} : Nat → List Int → Int → (List Int → Option α) → Option α := Classical.choose spec_l5Top.ex α
theorem spec_l5Top.eq : @spec_l5Top = @spec_l5Top.b := funext fun α => congrFun (Classical.choose_spec spec_l5Top.ex) α

noncomputable def spec_l5Shl_L0r {α : Type} (N : Nat) (next : List Int → Int → List Int → Option α) (k0 : List Int → Option α) (v289 : List Int) (v290 : Int) (v291 : List Int) : Option α :=
  let x292 := ((v289.length : Nat) : Int)
  let x293 := decide (v290 < x292)
  bif x293 then
    bif (decide (v290 < (0 : Int))) then
      none
    else
      match v289[v290.toNat]? with
      | some x294 =>
        let x295 := [x294]
        bif decide (v291.length + x295.length ≤ 8796093022208) then
          let x296 := v291 ++ x295
          let x297 := (IntKind.i64.wrap (v290 + (1 : Int)))
          next v289 x297 x296
        else
          none
      | none => none
  else
    k0 v291
noncomputable def spec_l5Shl_L0.b {α : Type} (N n : Nat) (v289 : List Int) (v290 : Int) (v291 : List Int) (k0 : List Int → Option α) : Option α :=
  Nat.rec (motive := fun _ => List Int → Int → List Int → Option α) (fun _ _ _ => none) (fun _ next => spec_l5Shl_L0r N next k0) n v289 v290 v291
theorem spec_l5Shl_L0.ex : ∃ f : ((α : Type) → Nat → Nat → List Int → Int → List Int → (List Int → Option α) → Option α), f = fun α => @spec_l5Shl_L0.b α := ⟨_, rfl⟩
noncomputable def spec_l5Shl_L0 {α : Type} : Nat → Nat → List Int → Int → List Int → (List Int → Option α) → Option α := Classical.choose spec_l5Shl_L0.ex α
theorem spec_l5Shl_L0.eq : @spec_l5Shl_L0 = @spec_l5Shl_L0.b := funext fun α => congrFun (Classical.choose_spec spec_l5Shl_L0.ex) α
theorem spec_l5Shl_L0.zero {α : Type} (N : Nat) (v289 : List Int) (v290 : Int) (v291 : List Int) (k0 : List Int → Option α) : spec_l5Shl_L0 N 0 v289 v290 v291 k0 = none := by rw [spec_l5Shl_L0.eq]; rfl
theorem spec_l5Shl_L0.succ {α : Type} (N n : Nat) (v289 : List Int) (v290 : Int) (v291 : List Int) (k0 : List Int → Option α) : spec_l5Shl_L0 N (n + 1) v289 v290 v291 k0 = spec_l5Shl_L0r N (fun y0 y1 y2 => spec_l5Shl_L0 N n y0 y1 y2 k0) k0 v289 v290 v291 := by rw [spec_l5Shl_L0.eq]; rfl
/-- loop.example/pinfold/spec.l5Shl -/
noncomputable def spec_l5Shl.b {α : Type} (N : Nat) (a284 : List Int) (a285 : Int) (k0 : List Int → Option α) : Option α :=
  let x286 := ((a284.length : Nat) : Int)
  let x287 := (decide (x286 = (0 : Int)))
  bif x287 then
    k0 []
  else
    bif (decide ((0 : Int) ≤ a285)) then
      bif decide (a285 ≤ a285) then
        bif (decide (a285 ≤ ((8796093022208 : Nat) : Int))) then
          let x288 := (List.replicate a285.toNat (0 : Int))
          spec_l5Shl_L0 N N a284 (0 : Int) x288
            (fun x298 =>
              k0 x298)
        else
          none
      else
        none
    else
      none
theorem spec_l5Shl.ex : ∃ f : ((α : Type) → Nat → List Int → Int → (List Int → Option α) → Option α), f = fun α => @spec_l5Shl.b α := ⟨_, rfl⟩
noncomputable def spec_l5Shl {α : Type} : Nat → List Int → Int → (List Int → Option α) → Option α := Classical.choose spec_l5Shl.ex α
theorem spec_l5Shl.eq : @spec_l5Shl = @spec_l5Shl.b := funext fun α => congrFun (Classical.choose_spec spec_l5Shl.ex) α

/-- loop.example/pinfold/spec.l5At -/
noncomputable def spec_l5At.b {α : Type} (N : Nat) (a322 : List Int) (a323 : Int) (k0 : Int → Option α) : Option α :=
  let x324 := ((a322.length : Nat) : Int)
  let x325 := decide (a323 < x324)
  bif x325 then
    bif (decide (a323 < (0 : Int))) then
      none
    else
      match a322[a323.toNat]? with
      | some x326 =>
        k0 x326
      | none => none
  else
    k0 (0 : Int)
theorem spec_l5At.ex : ∃ f : ((α : Type) → Nat → List Int → Int → (Int → Option α) → Option α), f = fun α => @spec_l5At.b α := ⟨_, rfl⟩
noncomputable def spec_l5At {α : Type} : Nat → List Int → Int → (Int → Option α) → Option α := Classical.choose spec_l5At.ex α
theorem spec_l5At.eq : @spec_l5At = @spec_l5At.b := funext fun α => congrFun (Classical.choose_spec spec_l5At.ex) α

noncomputable def spec_l5Add_J2.b {α : Type} (N : Nat) (v306 : List Int) (v307 : List Int) (v308 : Int) (k0 : List Int → List Int → Int → Option α) : Option α :=
  let x309 := ((v307.length : Nat) : Int)
  let x310 := decide (v308 < x309)
  bif x310 then
    let x311 := ((v307.length : Nat) : Int)
    k0 v306 v307 x311
  else
    k0 v306 v307 v308
theorem spec_l5Add_J2.ex : ∃ f : ((α : Type) → Nat → List Int → List Int → Int → (List Int → List Int → Int → Option α) → Option α), f = fun α => @spec_l5Add_J2.b α := ⟨_, rfl⟩
noncomputable def spec_l5Add_J2 {α : Type} : Nat → List Int → List Int → Int → (List Int → List Int → Int → Option α) → Option α := Classical.choose spec_l5Add_J2.ex α
theorem spec_l5Add_J2.eq : @spec_l5Add_J2 = @spec_l5Add_J2.b := funext fun α => congrFun (Classical.choose_spec spec_l5Add_J2.ex) α
noncomputable def spec_l5Add_L0r {α : Type} (N : Nat) (next : List Int → List Int → Int → Int → Int → List Int → Option α) (k0 : Int → List Int → Option α) (v315 : List Int) (v316 : List Int) (v317 : Int) (v318 : Int) (v319 : Int) (v320 : List Int) : Option α :=
  let x321 := decide (v319 < v317)
  bif x321 then
    spec_l5At N v315 v319
      (fun x327 =>
        spec_l5At N v316 v319
          (fun x328 =>
            let x329 := IntKind.i64.wrap (x327 + x328)
            let x330 := IntKind.i64.wrap (x329 + v318)
            let x331 := (Int.tmod x330 (65536 : Int))
            let x332 := [x331]
            bif decide (v320.length + x332.length ≤ 8796093022208) then
              let x333 := v320 ++ x332
              let x334 := (IntKind.i64.wrap (Int.tdiv x330 (65536 : Int)))
              let x335 := (IntKind.i64.wrap (v319 + (1 : Int)))
              next v315 v316 v317 x334 x335 x333
            else
              none))
  else
    k0 v318 v320
noncomputable def spec_l5Add_L0.b {α : Type} (N n : Nat) (v315 : List Int) (v316 : List Int) (v317 : Int) (v318 : Int) (v319 : Int) (v320 : List Int) (k0 : Int → List Int → Option α) : Option α :=
  Nat.rec (motive := fun _ => List Int → List Int → Int → Int → Int → List Int → Option α) (fun _ _ _ _ _ _ => none) (fun _ next => spec_l5Add_L0r N next k0) n v315 v316 v317 v318 v319 v320
theorem spec_l5Add_L0.ex : ∃ f : ((α : Type) → Nat → Nat → List Int → List Int → Int → Int → Int → List Int → (Int → List Int → Option α) → Option α), f = fun α => @spec_l5Add_L0.b α := ⟨_, rfl⟩
noncomputable def spec_l5Add_L0 {α : Type} : Nat → Nat → List Int → List Int → Int → Int → Int → List Int → (Int → List Int → Option α) → Option α := Classical.choose spec_l5Add_L0.ex α
theorem spec_l5Add_L0.eq : @spec_l5Add_L0 = @spec_l5Add_L0.b := funext fun α => congrFun (Classical.choose_spec spec_l5Add_L0.ex) α
theorem spec_l5Add_L0.zero {α : Type} (N : Nat) (v315 : List Int) (v316 : List Int) (v317 : Int) (v318 : Int) (v319 : Int) (v320 : List Int) (k0 : Int → List Int → Option α) : spec_l5Add_L0 N 0 v315 v316 v317 v318 v319 v320 k0 = none := by rw [spec_l5Add_L0.eq]; rfl
theorem spec_l5Add_L0.succ {α : Type} (N n : Nat) (v315 : List Int) (v316 : List Int) (v317 : Int) (v318 : Int) (v319 : Int) (v320 : List Int) (k0 : Int → List Int → Option α) : spec_l5Add_L0 N (n + 1) v315 v316 v317 v318 v319 v320 k0 = spec_l5Add_L0r N (fun y0 y1 y2 y3 y4 y5 => spec_l5Add_L0 N n y0 y1 y2 y3 y4 y5 k0) k0 v315 v316 v317 v318 v319 v320 := by rw [spec_l5Add_L0.eq]; rfl
noncomputable def spec_l5Add_J12.b {α : Type} (N : Nat) (v338 : Int) (v339 : List Int) (k0 : List Int → Option α) : Option α :=
  let x340 := (decide ((0 : Int) < v338))
  bif x340 then
    let x341 := [v338]
    bif decide (v339.length + x341.length ≤ 8796093022208) then
      let x342 := v339 ++ x341
      k0 x342
    else
      none
  else
    k0 v339
theorem spec_l5Add_J12.ex : ∃ f : ((α : Type) → Nat → Int → List Int → (List Int → Option α) → Option α), f = fun α => @spec_l5Add_J12.b α := ⟨_, rfl⟩
noncomputable def spec_l5Add_J12 {α : Type} : Nat → Int → List Int → (List Int → Option α) → Option α := Classical.choose spec_l5Add_J12.ex α
theorem spec_l5Add_J12.eq : @spec_l5Add_J12 = @spec_l5Add_J12.b := funext fun α => congrFun (Classical.choose_spec spec_l5Add_J12.ex) α
/-- loop.example/pinfold/spec.l5Add -/
noncomputable def spec_l5Add.b {α : Type} (N : Nat) (a303 : List Int) (a304 : List Int) (k0 : List Int → Option α) : Option α :=
  let x305 := ((a303.length : Nat) : Int)
  spec_l5Add_J2 N a303 a304 x305
    (fun x312 x313 x314 =>
      spec_l5Add_L0 N N x312 x313 x314 (0 : Int) (0 : Int) []
        (fun x336 x337 =>
          spec_l5Add_J12 N x336 x337
            (fun x343 =>
              k0 x343)))
theorem spec_l5Add.ex : ∃ f : ((α : Type) → Nat → List Int → List Int → (List Int → Option α) → Option α), f = fun α => @spec_l5Add.b α := ⟨_, rfl⟩
noncomputable def spec_l5Add {α : Type} : Nat → List Int → List Int → (List Int → Option α) → Option α := Classical.choose spec_l5Add.ex α
theorem spec_l5Add.eq : @spec_l5Add = @spec_l5Add.b := funext fun α => congrFun (Classical.choose_spec spec_l5Add.ex) α

noncomputable def spec_l5Sub_J8.b {α : Type} (N : Nat) (v396 : List Int) (v397 : List Int) (v398 : Int) (v399 : Int) (v400 : Int) (v401 : List Int) (k0 : List Int → List Int → Int → Int → Int → List Int → Option α) : Option α :=
  let x402 := (decide (v400 < (0 : Int)))
  bif x402 then
    let x403 := (IntKind.i64.wrap (v400 + (65536 : Int)))
    k0 v396 v397 (1 : Int) v399 x403 v401
  else
    k0 v396 v397 v398 v399 v400 v401
theorem spec_l5Sub_J8.ex : ∃ f : ((α : Type) → Nat → List Int → List Int → Int → Int → Int → List Int → (List Int → List Int → Int → Int → Int → List Int → Option α) → Option α), f = fun α => @spec_l5Sub_J8.b α := ⟨_, rfl⟩
noncomputable def spec_l5Sub_J8 {α : Type} : Nat → List Int → List Int → Int → Int → Int → List Int → (List Int → List Int → Int → Int → Int → List Int → Option α) → Option α := Classical.choose spec_l5Sub_J8.ex α
theorem spec_l5Sub_J8.eq : @spec_l5Sub_J8 = @spec_l5Sub_J8.b := funext fun α => congrFun (Classical.choose_spec spec_l5Sub_J8.ex) α
noncomputable def spec_l5Sub_L0r {α : Type} (N : Nat) (next : List Int → List Int → Int → Int → List Int → Option α) (k0 : List Int → Option α) (v385 : List Int) (v386 : List Int) (v387 : Int) (v388 : Int) (v389 : List Int) : Option α :=
  let x390 := ((v385.length : Nat) : Int)
  let x391 := decide (v388 < x390)
  bif x391 then
    bif (decide (v388 < (0 : Int))) then
      none
    else
      match v385[v388.toNat]? with
      | some x392 =>
        spec_l5At N v386 v388
          (fun x393 =>
            let x394 := IntKind.i64.wrap (x392 - x393)
            let x395 := IntKind.i64.wrap (x394 - v387)
            spec_l5Sub_J8 N v385 v386 (0 : Int) v388 x395 v389
              (fun x404 x405 x406 x407 x408 x409 =>
                let x410 := [x408]
                bif decide (x409.length + x410.length ≤ 8796093022208) then
                  let x411 := x409 ++ x410
                  let x412 := (IntKind.i64.wrap (x407 + (1 : Int)))
                  next x404 x405 x406 x412 x411
                else
                  none))
      | none => none
  else
    k0 v389
noncomputable def spec_l5Sub_L0.b {α : Type} (N n : Nat) (v385 : List Int) (v386 : List Int) (v387 : Int) (v388 : Int) (v389 : List Int) (k0 : List Int → Option α) : Option α :=
  Nat.rec (motive := fun _ => List Int → List Int → Int → Int → List Int → Option α) (fun _ _ _ _ _ => none) (fun _ next => spec_l5Sub_L0r N next k0) n v385 v386 v387 v388 v389
theorem spec_l5Sub_L0.ex : ∃ f : ((α : Type) → Nat → Nat → List Int → List Int → Int → Int → List Int → (List Int → Option α) → Option α), f = fun α => @spec_l5Sub_L0.b α := ⟨_, rfl⟩
noncomputable def spec_l5Sub_L0 {α : Type} : Nat → Nat → List Int → List Int → Int → Int → List Int → (List Int → Option α) → Option α := Classical.choose spec_l5Sub_L0.ex α
theorem spec_l5Sub_L0.eq : @spec_l5Sub_L0 = @spec_l5Sub_L0.b := funext fun α => congrFun (Classical.choose_spec spec_l5Sub_L0.ex) α
theorem spec_l5Sub_L0.zero {α : Type} (N : Nat) (v385 : List Int) (v386 : List Int) (v387 : Int) (v388 : Int) (v389 : List Int) (k0 : List Int → Option α) : spec_l5Sub_L0 N 0 v385 v386 v387 v388 v389 k0 = none := by rw [spec_l5Sub_L0.eq]; rfl
theorem spec_l5Sub_L0.succ {α : Type} (N n : Nat) (v385 : List Int) (v386 : List Int) (v387 : Int) (v388 : Int) (v389 : List Int) (k0 : List Int → Option α) : spec_l5Sub_L0 N (n + 1) v385 v386 v387 v388 v389 k0 = spec_l5Sub_L0r N (fun y0 y1 y2 y3 y4 => spec_l5Sub_L0 N n y0 y1 y2 y3 y4 k0) k0 v385 v386 v387 v388 v389 := by rw [spec_l5Sub_L0.eq]; rfl
/-- loop.example/pinfold/spec.l5Sub -/
noncomputable def spec_l5Sub.b {α : Type} (N : Nat) (a383 : List Int) (a384 : List Int) (k0 : List Int → Option α) : Option α :=
  spec_l5Sub_L0 N N a383 a384 (0 : Int) (0 : Int) []
    (fun x413 =>
      spec_l5Trim N x413
        (fun x414 =>
          k0 x414))
theorem spec_l5Sub.ex : ∃ f : ((α : Type) → Nat → List Int → List Int → (List Int → Option α) → Option α), f = fun α => @spec_l5Sub.b α := ⟨_, rfl⟩
noncomputable def spec_l5Sub {α : Type} : Nat → List Int → List Int → (List Int → Option α) → Option α := Classical.choose spec_l5Sub.ex α
theorem spec_l5Sub.eq : @spec_l5Sub = @spec_l5Sub.b := funext fun α => congrFun (Classical.choose_spec spec_l5Sub.ex) α

noncomputable def spec_l5Div_J17.b {α : Type} (N : Nat) (v354 : Int) (v355 : Int) (v356 : Int) (v357 : Int) (v358 : List Int) (v359 : List Int) (v360 : List Int) (v361 : List Int) (k0 : Int → Int → Int → Int → List Int → List Int → List Int → List Int → Option α) : Option α :=
  let x362 := (decide ((65536 : Int) ≤ v357))
  bif x362 then
    k0 v354 v355 v356 (65535 : Int) v358 v359 v360 v361
  else
    k0 v354 v355 v356 v357 v358 v359 v360 v361
theorem spec_l5Div_J17.ex : ∃ f : ((α : Type) → Nat → Int → Int → Int → Int → List Int → List Int → List Int → List Int → (Int → Int → Int → Int → List Int → List Int → List Int → List Int → Option α) → Option α), f = fun α => @spec_l5Div_J17.b α := ⟨_, rfl⟩
noncomputable def spec_l5Div_J17 {α : Type} : Nat → Int → Int → Int → Int → List Int → List Int → List Int → List Int → (Int → Int → Int → Int → List Int → List Int → List Int → List Int → Option α) → Option α := Classical.choose spec_l5Div_J17.ex α
theorem spec_l5Div_J17.eq : @spec_l5Div_J17 = @spec_l5Div_J17.b := funext fun α => congrFun (Classical.choose_spec spec_l5Div_J17.ex) α
noncomputable def spec_l5Div_L2r {α : Type} (N : Nat) (next : Int → Int → Int → Int → List Int → List Int → List Int → List Int → List Int → Option α) (k0 : Int → Int → Int → Int → List Int → List Int → List Int → List Int → List Int → Option α) (v372 : Int) (v373 : Int) (v374 : Int) (v375 : Int) (v376 : List Int) (v377 : List Int) (v378 : List Int) (v379 : List Int) (v380 : List Int) : Option α :=
  spec_l5Cmp N v380 v379
    (fun x381 =>
      let x382 := (decide ((0 : Int) < x381))
      bif x382 then
        spec_l5Sub N v380 v377
          (fun x415 =>
            let x416 := (IntKind.i64.wrap (v375 - (1 : Int)))
            next v372 v373 v374 x416 v376 v377 v378 v379 x415)
      else
        k0 v372 v373 v374 v375 v376 v377 v378 v379 v380)
noncomputable def spec_l5Div_L2.b {α : Type} (N n : Nat) (v372 : Int) (v373 : Int) (v374 : Int) (v375 : Int) (v376 : List Int) (v377 : List Int) (v378 : List Int) (v379 : List Int) (v380 : List Int) (k0 : Int → Int → Int → Int → List Int → List Int → List Int → List Int → List Int → Option α) : Option α :=
  Nat.rec (motive := fun _ => Int → Int → Int → Int → List Int → List Int → List Int → List Int → List Int → Option α) (fun _ _ _ _ _ _ _ _ _ => none) (fun _ next => spec_l5Div_L2r N next k0) n v372 v373 v374 v375 v376 v377 v378 v379 v380
theorem spec_l5Div_L2.ex : ∃ f : ((α : Type) → Nat → Nat → Int → Int → Int → Int → List Int → List Int → List Int → List Int → List Int → (Int → Int → Int → Int → List Int → List Int → List Int → List Int → List Int → Option α) → Option α), f = fun α => @spec_l5Div_L2.b α := ⟨_, rfl⟩
noncomputable def spec_l5Div_L2 {α : Type} : Nat → Nat → Int → Int → Int → Int → List Int → List Int → List Int → List Int → List Int → (Int → Int → Int → Int → List Int → List Int → List Int → List Int → List Int → Option α) → Option α := Classical.choose spec_l5Div_L2.ex α
theorem spec_l5Div_L2.eq : @spec_l5Div_L2 = @spec_l5Div_L2.b := funext fun α => congrFun (Classical.choose_spec spec_l5Div_L2.ex) α
theorem spec_l5Div_L2.zero {α : Type} (N : Nat) (v372 : Int) (v373 : Int) (v374 : Int) (v375 : Int) (v376 : List Int) (v377 : List Int) (v378 : List Int) (v379 : List Int) (v380 : List Int) (k0 : Int → Int → Int → Int → List Int → List Int → List Int → List Int → List Int → Option α) : spec_l5Div_L2 N 0 v372 v373 v374 v375 v376 v377 v378 v379 v380 k0 = none := by rw [spec_l5Div_L2.eq]; rfl
theorem spec_l5Div_L2.succ {α : Type} (N n : Nat) (v372 : Int) (v373 : Int) (v374 : Int) (v375 : Int) (v376 : List Int) (v377 : List Int) (v378 : List Int) (v379 : List Int) (v380 : List Int) (k0 : Int → Int → Int → Int → List Int → List Int → List Int → List Int → List Int → Option α) : spec_l5Div_L2 N (n + 1) v372 v373 v374 v375 v376 v377 v378 v379 v380 k0 = spec_l5Div_L2r N (fun y0 y1 y2 y3 y4 y5 y6 y7 y8 => spec_l5Div_L2 N n y0 y1 y2 y3 y4 y5 y6 y7 y8 k0) k0 v372 v373 v374 v375 v376 v377 v378 v379 v380 := by rw [spec_l5Div_L2.eq]; rfl
noncomputable def spec_l5Div_L0r {α : Type} (N : Nat) (next : Int → Int → Int → List Int → List Int → List Int → List Int → Option α) (k0 : Int → List Int → List Int → Option α) (v276 : Int) (v277 : Int) (v278 : Int) (v279 : List Int) (v280 : List Int) (v281 : List Int) (v282 : List Int) : Option α :=
  let x283 := (decide ((0 : Int) ≤ v278))
  bif x283 then
    spec_l5Shl N v282 (1 : Int)
      (fun x299 =>
        bif (decide (v278 < (0 : Int))) then
          none
        else
          bif decide (v278.toNat < v279.length) then
            match v279[v278.toNat]? with
            | some x300 =>
              let x301 := IntKind.u64.wrap x300
              spec_NatOf N x301
                (fun x302 =>
                  spec_l5Add N x299 x302
                    (fun x344 =>
                      spec_l5Trim N x344
                        (fun x345 =>
                          spec_l5At N x345 v277
                            (fun x346 =>
                              let x347 := (IntKind.i64.wrap (x346 * (65536 : Int)))
                              let x348 := (IntKind.i64.wrap (v277 - (1 : Int)))
                              spec_l5At N x345 x348
                                (fun x349 =>
                                  let x350 := IntKind.i64.wrap (x347 + x349)
                                  let x351 := (IntKind.i64.wrap (v277 - (1 : Int)))
                                  bif (decide (x351 < (0 : Int))) then
                                    none
                                  else
                                    bif decide (x351.toNat < v280.length) then
                                      match v280[x351.toNat]? with
                                      | some x352 =>
                                        bif (decide (x352 = (0 : Int))) then
                                          none
                                        else
                                          let x353 := IntKind.i64.wrap (Int.tdiv x350 x352)
                                          spec_l5Div_J17 N v276 v277 v278 x353 v279 v280 v281 x345
                                            (fun x363 x364 x365 x366 x367 x368 x369 x370 =>
                                              spec_l5Times N x368 x366
                                                (fun x371 =>
                                                  spec_l5Div_L2 N N x363 x364 x365 x366 x367 x368 x369 x370 x371
                                                    (fun x417 x418 x419 x420 x421 x422 x423 x424 x425 =>
                                                      bif (decide (x419 < (0 : Int))) then
                                                        none
                                                      else
                                                        bif decide (x419.toNat < x423.length) then
                                                          match x423[x419.toNat]? with
                                                          | some x426 =>
                                                            let x427 := x423.set x419.toNat x420
                                                            spec_l5Sub N x424 x425
                                                              (fun x428 =>
                                                                let x429 := (IntKind.i64.wrap (x419 - (1 : Int)))
                                                                next x417 x418 x429 x421 x422 x427 x428)
                                                          | none => none
                                                        else
                                                          none)))
                                      | none => none
                                    else
                                      none)))))
            | none => none
          else
            none)
  else
    k0 v276 v281 v282
noncomputable def spec_l5Div_L0.b {α : Type} (N n : Nat) (v276 : Int) (v277 : Int) (v278 : Int) (v279 : List Int) (v280 : List Int) (v281 : List Int) (v282 : List Int) (k0 : Int → List Int → List Int → Option α) : Option α :=
  Nat.rec (motive := fun _ => Int → Int → Int → List Int → List Int → List Int → List Int → Option α) (fun _ _ _ _ _ _ _ => none) (fun _ next => spec_l5Div_L0r N next k0) n v276 v277 v278 v279 v280 v281 v282
theorem spec_l5Div_L0.ex : ∃ f : ((α : Type) → Nat → Nat → Int → Int → Int → List Int → List Int → List Int → List Int → (Int → List Int → List Int → Option α) → Option α), f = fun α => @spec_l5Div_L0.b α := ⟨_, rfl⟩
noncomputable def spec_l5Div_L0 {α : Type} : Nat → Nat → Int → Int → Int → List Int → List Int → List Int → List Int → (Int → List Int → List Int → Option α) → Option α := Classical.choose spec_l5Div_L0.ex α
theorem spec_l5Div_L0.eq : @spec_l5Div_L0 = @spec_l5Div_L0.b := funext fun α => congrFun (Classical.choose_spec spec_l5Div_L0.ex) α
theorem spec_l5Div_L0.zero {α : Type} (N : Nat) (v276 : Int) (v277 : Int) (v278 : Int) (v279 : List Int) (v280 : List Int) (v281 : List Int) (v282 : List Int) (k0 : Int → List Int → List Int → Option α) : spec_l5Div_L0 N 0 v276 v277 v278 v279 v280 v281 v282 k0 = none := by rw [spec_l5Div_L0.eq]; rfl
theorem spec_l5Div_L0.succ {α : Type} (N n : Nat) (v276 : Int) (v277 : Int) (v278 : Int) (v279 : List Int) (v280 : List Int) (v281 : List Int) (v282 : List Int) (k0 : Int → List Int → List Int → Option α) : spec_l5Div_L0 N (n + 1) v276 v277 v278 v279 v280 v281 v282 k0 = spec_l5Div_L0r N (fun y0 y1 y2 y3 y4 y5 y6 => spec_l5Div_L0 N n y0 y1 y2 y3 y4 y5 y6 k0) k0 v276 v277 v278 v279 v280 v281 v282 := by rw [spec_l5Div_L0.eq]; rfl
/-- loop.example/pinfold/spec.l5Div -/
noncomputable def spec_l5Div.b {α : Type} (N : Nat) (a129 : List Int) (a130 : List Int) (k0 : List Int → List Int → Option α) : Option α :=
  spec_l5Cmp N a129 a130
    (fun x153 =>
      let x154 := (decide (x153 < (0 : Int)))
      bif x154 then
        spec_l5Trim N a129
          (fun x155 =>
            k0 [] x155)
      else
        let x156 := ((a130.length : Nat) : Int)
        let x157 := (decide (x156 = (1 : Int)))
        bif x157 then
          match a130[0]? with
          | some x158 =>
            spec_l5DivSmall N a129 x158
              (fun x182 x183 =>
                let x184 := IntKind.u64.wrap x182
                spec_NatOf N x184
                  (fun x195 =>
                    k0 x183 x195))
          | none => none
        else
          let x196 := ((a130.length : Nat) : Int)
          let x197 := (IntKind.i64.wrap (x196 - (1 : Int)))
          bif (decide (x197 < (0 : Int))) then
            none
          else
            match a130[x197.toNat]? with
            | some x198 =>
              let x199 := (IntKind.i64.wrap (x198 + (1 : Int)))
              bif (decide (x199 = (0 : Int))) then
                none
              else
                let x200 := (IntKind.i64.wrap (Int.tdiv (65536 : Int) x199))
                spec_l5Times N a129 x200
                  (fun x251 =>
                    spec_l5Times N a130 x200
                      (fun x252 =>
                        let x253 := ((x252.length : Nat) : Int)
                        let x254 := ((x251.length : Nat) : Int)
                        let x255 := IntKind.i64.wrap (x254 - x253)
                        let x256 := (IntKind.i64.wrap (x255 + (1 : Int)))
                        bif (decide ((0 : Int) ≤ x256)) then
                          bif decide (x256 ≤ x256) then
                            bif (decide (x256 ≤ ((8796093022208 : Nat) : Int))) then
                              let x257 := (List.replicate x256.toNat (0 : Int))
                              let x258 := ((x251.length : Nat) : Int)
                              let x259 := IntKind.i64.wrap (x258 - x253)
                              let x260 := (IntKind.i64.wrap (x259 + (1 : Int)))
                              spec_l5Top N x251 x260
                                (fun x273 =>
                                  let x274 := ((x251.length : Nat) : Int)
                                  let x275 := IntKind.i64.wrap (x274 - x253)
                                  spec_l5Div_L0 N N x200 x253 x275 x251 x252 x257 x273
                                    (fun x430 x431 x432 =>
                                      spec_l5DivSmall N x432 x430
                                        (fun _ x434 =>
                                          spec_l5Trim N x431
                                            (fun x435 =>
                                              k0 x435 x434))))
                            else
                              none
                          else
                            none
                        else
                          none))
            | none => none)
theorem spec_l5Div.ex : ∃ f : ((α : Type) → Nat → List Int → List Int → (List Int → List Int → Option α) → Option α), f = fun α => @spec_l5Div.b α := ⟨_, rfl⟩
noncomputable def spec_l5Div {α : Type} : Nat → List Int → List Int → (List Int → List Int → Option α) → Option α := Classical.choose spec_l5Div.ex α
theorem spec_l5Div.eq : @spec_l5Div = @spec_l5Div.b := funext fun α => congrFun (Classical.choose_spec spec_l5Div.ex) α

noncomputable def spec_l5Gcd_L0r {α : Type} (N : Nat) (next : List Int → List Int → Option α) (k0 : List Int → Option α) (v125 : List Int) (v126 : List Int) : Option α :=
  let x127 := ((v126.length : Nat) : Int)
  let x128 := (decide ((0 : Int) < x127))
  bif x128 then
    spec_l5Div N v125 v126
      (fun _ x437 =>
        next v126 x437)
  else
    k0 v125
noncomputable def spec_l5Gcd_L0.b {α : Type} (N n : Nat) (v125 : List Int) (v126 : List Int) (k0 : List Int → Option α) : Option α :=
  Nat.rec (motive := fun _ => List Int → List Int → Option α) (fun _ _ => none) (fun _ next => spec_l5Gcd_L0r N next k0) n v125 v126
theorem spec_l5Gcd_L0.ex : ∃ f : ((α : Type) → Nat → Nat → List Int → List Int → (List Int → Option α) → Option α), f = fun α => @spec_l5Gcd_L0.b α := ⟨_, rfl⟩
noncomputable def spec_l5Gcd_L0 {α : Type} : Nat → Nat → List Int → List Int → (List Int → Option α) → Option α := Classical.choose spec_l5Gcd_L0.ex α
theorem spec_l5Gcd_L0.eq : @spec_l5Gcd_L0 = @spec_l5Gcd_L0.b := funext fun α => congrFun (Classical.choose_spec spec_l5Gcd_L0.ex) α
theorem spec_l5Gcd_L0.zero {α : Type} (N : Nat) (v125 : List Int) (v126 : List Int) (k0 : List Int → Option α) : spec_l5Gcd_L0 N 0 v125 v126 k0 = none := by rw [spec_l5Gcd_L0.eq]; rfl
theorem spec_l5Gcd_L0.succ {α : Type} (N n : Nat) (v125 : List Int) (v126 : List Int) (k0 : List Int → Option α) : spec_l5Gcd_L0 N (n + 1) v125 v126 k0 = spec_l5Gcd_L0r N (fun y0 y1 => spec_l5Gcd_L0 N n y0 y1 k0) k0 v125 v126 := by rw [spec_l5Gcd_L0.eq]; rfl
/-- loop.example/pinfold/spec.l5Gcd -/
noncomputable def spec_l5Gcd.b {α : Type} (N : Nat) (a100 : List Int) (a101 : List Int) (k0 : List Int → Option α) : Option α :=
  spec_l5Trim N a100
    (fun x123 =>
      spec_l5Trim N a101
        (fun x124 =>
          spec_l5Gcd_L0 N N x123 x124
            (fun x438 =>
              k0 x438)))
theorem spec_l5Gcd.ex : ∃ f : ((α : Type) → Nat → List Int → List Int → (List Int → Option α) → Option α), f = fun α => @spec_l5Gcd.b α := ⟨_, rfl⟩
noncomputable def spec_l5Gcd {α : Type} : Nat → List Int → List Int → (List Int → Option α) → Option α := Classical.choose spec_l5Gcd.ex α
theorem spec_l5Gcd.eq : @spec_l5Gcd = @spec_l5Gcd.b := funext fun α => congrFun (Classical.choose_spec spec_l5Gcd.ex) α

/-- loop.example/pinfold/spec.l6One -/
noncomputable def spec_l6One.b {α : Type} (N : Nat) (a440 : List Int) (k0 : Bool → Option α) : Option α :=
  let x441 := ((a440.length : Nat) : Int)
  let x442 := (decide (x441 = (1 : Int)))
  bif x442 then
    match a440[0]? with
    | some x443 =>
      let x444 := (decide (x443 = (1 : Int)))
      k0 x444
    | none => none
  else
    k0 false
theorem spec_l6One.ex : ∃ f : ((α : Type) → Nat → List Int → (Bool → Option α) → Option α), f = fun α => @spec_l6One.b α := ⟨_, rfl⟩
noncomputable def spec_l6One {α : Type} : Nat → List Int → (Bool → Option α) → Option α := Classical.choose spec_l6One.ex α
theorem spec_l6One.eq : @spec_l6One = @spec_l6One.b := funext fun α => congrFun (Classical.choose_spec spec_l6One.ex) α

/-- loop.example/pinfold/spec.FracOk -/
noncomputable def spec_FracOk.b {α : Type} (N : Nat) (a71 : Bool × (List Int) × (List Int) × Unit) (k0 : Bool → Option α) : Option α :=
  spec_NatOk N a71.2.1
    (fun x92 =>
      let x93 := !x92
      bif x93 then
        k0 false
      else
        spec_NatOk N a71.2.2.1
          (fun x94 =>
            let x95 := !x94
            bif x95 then
              k0 false
            else
              let x96 := ((a71.2.2.1.length : Nat) : Int)
              let x97 := (decide (x96 = (0 : Int)))
              bif x97 then
                k0 false
              else
                let x98 := ((a71.2.1.length : Nat) : Int)
                let x99 := (decide (x98 = (0 : Int)))
                bif x99 then
                  bif a71.1 then
                    k0 false
                  else
                    spec_l5Gcd N a71.2.1 a71.2.2.1
                      (fun x439 =>
                        spec_l6One N x439
                          (fun x445 =>
                            k0 x445))
                else
                  spec_l5Gcd N a71.2.1 a71.2.2.1
                    (fun x446 =>
                      spec_l6One N x446
                        (fun x447 =>
                          k0 x447))))
theorem spec_FracOk.ex : ∃ f : ((α : Type) → Nat → (Bool × (List Int) × (List Int) × Unit) → (Bool → Option α) → Option α), f = fun α => @spec_FracOk.b α := ⟨_, rfl⟩
noncomputable def spec_FracOk {α : Type} : Nat → (Bool × (List Int) × (List Int) × Unit) → (Bool → Option α) → Option α := Classical.choose spec_FracOk.ex α
theorem spec_FracOk.eq : @spec_FracOk = @spec_FracOk.b := funext fun α => congrFun (Classical.choose_spec spec_FracOk.ex) α

/-- loop.example/pinfold/spec.l8Frac -/
noncomputable def spec_l8Frac.b {α : Type} (N : Nat) (a454 : Bool × (List Int) × (List Int) × Unit) (k0 : (Bool × (List Int) × (List Int) × Unit) → Option α) : Option α :=
  k0 (a454.1, (a454.2.1, (a454.2.2.1, ())))
theorem spec_l8Frac.ex : ∃ f : ((α : Type) → Nat → (Bool × (List Int) × (List Int) × Unit) → ((Bool × (List Int) × (List Int) × Unit) → Option α) → Option α), f = fun α => @spec_l8Frac.b α := ⟨_, rfl⟩
noncomputable def spec_l8Frac {α : Type} : Nat → (Bool × (List Int) × (List Int) × Unit) → ((Bool × (List Int) × (List Int) × Unit) → Option α) → Option α := Classical.choose spec_l8Frac.ex α
theorem spec_l8Frac.eq : @spec_l8Frac = @spec_l8Frac.b := funext fun α => congrFun (Classical.choose_spec spec_l8Frac.ex) α

/-- loop.example/pinfold/spec.l1Least -/
noncomputable def spec_l1Least.b {α : Type} (N : Nat) (a468 : Int) (k0 : Int → Option α) : Option α :=
  let x469 := (decide (a468 = (32 : Int)))
  bif x469 then
    k0 (-149 : Int)
  else
    k0 (-1074 : Int)
theorem spec_l1Least.ex : ∃ f : ((α : Type) → Nat → Int → (Int → Option α) → Option α), f = fun α => @spec_l1Least.b α := ⟨_, rfl⟩
noncomputable def spec_l1Least {α : Type} : Nat → Int → (Int → Option α) → Option α := Classical.choose spec_l1Least.ex α
theorem spec_l1Least.eq : @spec_l1Least = @spec_l1Least.b := funext fun α => congrFun (Classical.choose_spec spec_l1Least.ex) α

/-- loop.example/pinfold/spec.l1Frac -/
noncomputable def spec_l1Frac.b {α : Type} (N : Nat) (a481 : Int) (k0 : Int → Option α) : Option α :=
  let x482 := (decide (a481 = (32 : Int)))
  bif x482 then
    k0 (23 : Int)
  else
    k0 (52 : Int)
theorem spec_l1Frac.ex : ∃ f : ((α : Type) → Nat → Int → (Int → Option α) → Option α), f = fun α => @spec_l1Frac.b α := ⟨_, rfl⟩
noncomputable def spec_l1Frac {α : Type} : Nat → Int → (Int → Option α) → Option α := Classical.choose spec_l1Frac.ex α
theorem spec_l1Frac.eq : @spec_l1Frac = @spec_l1Frac.b := funext fun α => congrFun (Classical.choose_spec spec_l1Frac.ex) α

noncomputable def spec_BitPartOf_J5.b {α : Type} (N : Nat) (v471 : Int) (v472 : Int) (v473 : Bool × Int × Int × Unit) (v474 : Bool × Int × Int × Unit) (k0 : Int → Int → (Bool × Int × Int × Unit) → (Bool × Int × Int × Unit) → Option α) : Option α :=
  let x475 := (decide (v472 < (0 : Int)))
  bif x475 then
    let x476 := IntKind.i64.wrap (0 - v472)
    k0 v471 x476 v473 v474
  else
    k0 v471 v472 v473 v474
theorem spec_BitPartOf_J5.ex : ∃ f : ((α : Type) → Nat → Int → Int → (Bool × Int × Int × Unit) → (Bool × Int × Int × Unit) → (Int → Int → (Bool × Int × Int × Unit) → (Bool × Int × Int × Unit) → Option α) → Option α), f = fun α => @spec_BitPartOf_J5.b α := ⟨_, rfl⟩
noncomputable def spec_BitPartOf_J5 {α : Type} : Nat → Int → Int → (Bool × Int × Int × Unit) → (Bool × Int × Int × Unit) → (Int → Int → (Bool × Int × Int × Unit) → (Bool × Int × Int × Unit) → Option α) → Option α := Classical.choose spec_BitPartOf_J5.ex α
theorem spec_BitPartOf_J5.eq : @spec_BitPartOf_J5 = @spec_BitPartOf_J5.b := funext fun α => congrFun (Classical.choose_spec spec_BitPartOf_J5.ex) α
noncomputable def spec_BitPartOf_J10.b {α : Type} (N : Nat) (v489 : Int) (v490 : Int) (v491 : Bool × Int × Int × Unit) (v492 : Bool × Int × Int × Unit) (k0 : (Bool × Int × Int × Unit) → (Bool × Int × Int × Unit) → Option α) : Option α :=
  let x493 := (decide ((0 : Int) < v490))
  bif x493 then
    let x494 := IntKind.u64.wrap v489
    let x495 := IntKind.u64.wrap (v492.2.1 + x494)
    let x496 := IntKind.i64.wrap (v492.2.2.1 + v490)
    let x497 := (IntKind.i64.wrap (x496 - (1 : Int)))
    k0 v491 (v492.1, (x495, (x497, ())))
  else
    k0 v491 v492
theorem spec_BitPartOf_J10.ex : ∃ f : ((α : Type) → Nat → Int → Int → (Bool × Int × Int × Unit) → (Bool × Int × Int × Unit) → ((Bool × Int × Int × Unit) → (Bool × Int × Int × Unit) → Option α) → Option α), f = fun α => @spec_BitPartOf_J10.b α := ⟨_, rfl⟩
noncomputable def spec_BitPartOf_J10 {α : Type} : Nat → Int → Int → (Bool × Int × Int × Unit) → (Bool × Int × Int × Unit) → ((Bool × Int × Int × Unit) → (Bool × Int × Int × Unit) → Option α) → Option α := Classical.choose spec_BitPartOf_J10.ex α
theorem spec_BitPartOf_J10.eq : @spec_BitPartOf_J10 = @spec_BitPartOf_J10.b := funext fun α => congrFun (Classical.choose_spec spec_BitPartOf_J10.ex) α
/-- loop.example/pinfold/spec.BitPartOf -/
noncomputable def spec_BitPartOf.b {α : Type} (N : Nat) (a458 : Int) (a459 : Int) (k0 : (Bool × Int × Int × Unit) → Bool → Option α) : Option α :=
  spec_BitOk N a458 a459
    (fun x460 =>
      let x461 := !x460
      bif x461 then
        k0 (false, ((0 : Int), ((0 : Int), ()))) false
      else
        spec_BitTop N a458
          (fun x462 =>
            let x463 := decide (a459 = x462)
            bif x463 then
              k0 (false, ((0 : Int), ((0 : Int), ()))) false
            else
              spec_BitTop N a458
                (fun x464 =>
                  let x465 := IntKind.i64.wrap (0 - x464)
                  let x466 := decide (a459 = x465)
                  bif x466 then
                    k0 (false, ((0 : Int), ((0 : Int), ()))) false
                  else
                    let x467 := (decide (a459 < (0 : Int)))
                    spec_l1Least N a458
                      (fun x470 =>
                        spec_BitPartOf_J5 N a458 a459 (false, ((0 : Int), ((0 : Int), ()))) (x467, ((0 : Int), (x470, ())))
                          (fun x477 x478 x479 x480 =>
                            spec_l1Frac N x477
                              (fun x483 =>
                                let x484 := IntKind.u64.wrap x483
                                bif (decide (x484 < (0 : Int))) then
                                  none
                                else
                                  let x485 := (shlI .i64 (1 : Int) x484)
                                  bif (decide (x485 = (0 : Int))) then
                                    none
                                  else
                                    let x486 := IntKind.i64.wrap (Int.tdiv x478 x485)
                                    bif (decide (x485 = (0 : Int))) then
                                      none
                                    else
                                      let x487 := Int.tmod x478 x485
                                      let x488 := IntKind.u64.wrap x487
                                      spec_BitPartOf_J10 N x485 x486 x479 (x480.1, (x488, (x480.2.2.1, ())))
                                        (fun _ x499 =>
                                          k0 x499 true)))))))
theorem spec_BitPartOf.ex : ∃ f : ((α : Type) → Nat → Int → Int → ((Bool × Int × Int × Unit) → Bool → Option α) → Option α), f = fun α => @spec_BitPartOf.b α := ⟨_, rfl⟩
noncomputable def spec_BitPartOf {α : Type} : Nat → Int → Int → ((Bool × Int × Int × Unit) → Bool → Option α) → Option α := Classical.choose spec_BitPartOf.ex α
theorem spec_BitPartOf.eq : @spec_BitPartOf = @spec_BitPartOf.b := funext fun α => congrFun (Classical.choose_spec spec_BitPartOf.ex) α

/-- loop.example/pinfold/spec.l5Pow2 -/
noncomputable def spec_l5Pow2.b {α : Type} (N : Nat) (a512 : Int) (k0 : List Int → Option α) : Option α :=
  let x513 := (Int.tmod a512 (16 : Int))
  let x514 := IntKind.u64.wrap x513
  bif (decide (x514 < (0 : Int))) then
    none
  else
    let x515 := (shlI .i64 (1 : Int) x514)
    let x516 := [x515]
    let x517 := (IntKind.i64.wrap (Int.tdiv a512 (16 : Int)))
    spec_l5Shl N x516 x517
      (fun x518 =>
        k0 x518)
theorem spec_l5Pow2.ex : ∃ f : ((α : Type) → Nat → Int → (List Int → Option α) → Option α), f = fun α => @spec_l5Pow2.b α := ⟨_, rfl⟩
noncomputable def spec_l5Pow2 {α : Type} : Nat → Int → (List Int → Option α) → Option α := Classical.choose spec_l5Pow2.ex α
theorem spec_l5Pow2.eq : @spec_l5Pow2 = @spec_l5Pow2.b := funext fun α => congrFun (Classical.choose_spec spec_l5Pow2.ex) α

noncomputable def spec_l8Of_J3.b {α : Type} (N : Nat) (v504 : Bool) (v505 : Bool × Int × Int × Unit) (v506 : Bool) (v507 : List Int) (v508 : List Int) (v509 : List Int) (v510 : List Int) (k0 : Bool → Bool → List Int → List Int → List Int → List Int → Option α) : Option α :=
  let x511 := (decide ((0 : Int) ≤ v505.2.2.1))
  bif x511 then
    spec_l5Pow2 N v505.2.2.1
      (fun x519 =>
        spec_l5Mul N v509 x519
          (fun x520 =>
            k0 v504 v506 v507 v508 x520 v510))
  else
    let x521 := IntKind.i64.wrap (0 - v505.2.2.1)
    spec_l5Pow2 N x521
      (fun x522 =>
        k0 v504 v506 v507 v508 v509 x522)
theorem spec_l8Of_J3.ex : ∃ f : ((α : Type) → Nat → Bool → (Bool × Int × Int × Unit) → Bool → List Int → List Int → List Int → List Int → (Bool → Bool → List Int → List Int → List Int → List Int → Option α) → Option α), f = fun α => @spec_l8Of_J3.b α := ⟨_, rfl⟩
noncomputable def spec_l8Of_J3 {α : Type} : Nat → Bool → (Bool × Int × Int × Unit) → Bool → List Int → List Int → List Int → List Int → (Bool → Bool → List Int → List Int → List Int → List Int → Option α) → Option α := Classical.choose spec_l8Of_J3.ex α
theorem spec_l8Of_J3.eq : @spec_l8Of_J3 = @spec_l8Of_J3.b := funext fun α => congrFun (Classical.choose_spec spec_l8Of_J3.ex) α
/-- loop.example/pinfold/spec.l8Of -/
noncomputable def spec_l8Of.b {α : Type} (N : Nat) (a456 : Int) (a457 : Int) (k0 : Bool → List Int → List Int → Option α) : Option α :=
  spec_BitPartOf N a456 a457
    (fun x500 _ =>
      spec_NatOf N x500.2.1
        (fun x502 =>
          let x503 := [(1 : Int)]
          spec_l8Of_J3 N false x500 x500.1 [] [] x502 x503
            (fun _ x524 _ _ x527 x528 =>
              k0 x524 x527 x528)))
theorem spec_l8Of.ex : ∃ f : ((α : Type) → Nat → Int → Int → (Bool → List Int → List Int → Option α) → Option α), f = fun α => @spec_l8Of.b α := ⟨_, rfl⟩
noncomputable def spec_l8Of {α : Type} : Nat → Int → Int → (Bool → List Int → List Int → Option α) → Option α := Classical.choose spec_l8Of.ex α
theorem spec_l8Of.eq : @spec_l8Of = @spec_l8Of.b := funext fun α => congrFun (Classical.choose_spec spec_l8Of.ex) α

/-- loop.example/pinfold/spec.l8Cmp -/
noncomputable def spec_l8Cmp.b {α : Type} (N : Nat) (a532 : Bool × (List Int) × (List Int) × Unit) (a533 : Bool × (List Int) × (List Int) × Unit) (k0 : Int → Option α) : Option α :=
  spec_l5Mul N a532.2.1 a533.2.2.1
    (fun x534 =>
      spec_l5Mul N a533.2.1 a532.2.2.1
        (fun x535 =>
          let x536 := ((x534.length : Nat) : Int)
          let x537 := (decide (x536 = (0 : Int)))
          bif x537 then
            let x538 := ((x535.length : Nat) : Int)
            let x539 := (decide (x538 = (0 : Int)))
            bif x539 then
              k0 (0 : Int)
            else
              bif a532.1 then
                let x540 := ((x534.length : Nat) : Int)
                let x541 := (decide ((0 : Int) < x540))
                bif x541 then
                  bif a533.1 then
                    let x542 := ((x535.length : Nat) : Int)
                    let x543 := (decide ((0 : Int) < x542))
                    bif x543 then
                      spec_l5Cmp N x535 x534
                        (fun x544 =>
                          k0 x544)
                    else
                      k0 (-1 : Int)
                  else
                    k0 (-1 : Int)
                else
                  bif a533.1 then
                    let x545 := ((x535.length : Nat) : Int)
                    let x546 := (decide ((0 : Int) < x545))
                    bif x546 then
                      k0 (1 : Int)
                    else
                      spec_l5Cmp N x534 x535
                        (fun x547 =>
                          k0 x547)
                  else
                    spec_l5Cmp N x534 x535
                      (fun x548 =>
                        k0 x548)
              else
                bif a533.1 then
                  let x549 := ((x535.length : Nat) : Int)
                  let x550 := (decide ((0 : Int) < x549))
                  bif x550 then
                    k0 (1 : Int)
                  else
                    spec_l5Cmp N x534 x535
                      (fun x551 =>
                        k0 x551)
                else
                  spec_l5Cmp N x534 x535
                    (fun x552 =>
                      k0 x552)
          else
            bif a532.1 then
              let x553 := ((x534.length : Nat) : Int)
              let x554 := (decide ((0 : Int) < x553))
              bif x554 then
                bif a533.1 then
                  let x555 := ((x535.length : Nat) : Int)
                  let x556 := (decide ((0 : Int) < x555))
                  bif x556 then
                    spec_l5Cmp N x535 x534
                      (fun x557 =>
                        k0 x557)
                  else
                    k0 (-1 : Int)
                else
                  k0 (-1 : Int)
              else
                bif a533.1 then
                  let x558 := ((x535.length : Nat) : Int)
                  let x559 := (decide ((0 : Int) < x558))
                  bif x559 then
                    k0 (1 : Int)
                  else
                    spec_l5Cmp N x534 x535
                      (fun x560 =>
                        k0 x560)
                else
                  spec_l5Cmp N x534 x535
                    (fun x561 =>
                      k0 x561)
            else
              bif a533.1 then
                let x562 := ((x535.length : Nat) : Int)
                let x563 := (decide ((0 : Int) < x562))
                bif x563 then
                  k0 (1 : Int)
                else
                  spec_l5Cmp N x534 x535
                    (fun x564 =>
                      k0 x564)
              else
                spec_l5Cmp N x534 x535
                  (fun x565 =>
                    k0 x565)))
theorem spec_l8Cmp.ex : ∃ f : ((α : Type) → Nat → (Bool × (List Int) × (List Int) × Unit) → (Bool × (List Int) × (List Int) × Unit) → (Int → Option α) → Option α), f = fun α => @spec_l8Cmp.b α := ⟨_, rfl⟩
noncomputable def spec_l8Cmp {α : Type} : Nat → (Bool × (List Int) × (List Int) × Unit) → (Bool × (List Int) × (List Int) × Unit) → (Int → Option α) → Option α := Classical.choose spec_l8Cmp.ex α
theorem spec_l8Cmp.eq : @spec_l8Cmp = @spec_l8Cmp.b := funext fun α => congrFun (Classical.choose_spec spec_l8Cmp.ex) α

/-- loop.example/pinfold/spec.PairHas -/
noncomputable def spec_PairHas.b {α : Type} (N : Nat) (a43 : Int) (a44 : Int × Int × Unit) (a45 : Bool × (List Int) × (List Int) × Unit) (k0 : Bool → Option α) : Option α :=
  spec_PairOk N a43 a44
    (fun x69 =>
      let x70 := !x69
      bif x70 then
        k0 false
      else
        spec_FracOk N a45
          (fun x448 =>
            let x449 := !x448
            bif x449 then
              k0 false
            else
              spec_BitTop N a43
                (fun x450 =>
                  let x451 := IntKind.i64.wrap (0 - x450)
                  let x452 := decide (a44.1 = x451)
                  bif x452 then
                    let x453 := decide (a44.2.1 = x450)
                    bif x453 then
                      k0 true
                    else
                      spec_l8Frac N a45
                        (fun x455 =>
                          spec_l8Of N a43 a44.2.1
                            (fun x529 x530 x531 =>
                              spec_l8Cmp N x455 (x529, (x530, (x531, ())))
                                (fun x566 =>
                                  let x567 := (decide (x566 ≤ (0 : Int)))
                                  k0 x567)))
                  else
                    spec_l8Of N a43 a44.1
                      (fun x568 x569 x570 =>
                        spec_l8Frac N a45
                          (fun x571 =>
                            spec_l8Cmp N (x568, (x569, (x570, ()))) x571
                              (fun x572 =>
                                let x573 := (decide (x572 ≤ (0 : Int)))
                                bif x573 then
                                  let x574 := decide (a44.2.1 = x450)
                                  bif x574 then
                                    k0 true
                                  else
                                    spec_l8Frac N a45
                                      (fun x575 =>
                                        spec_l8Of N a43 a44.2.1
                                          (fun x576 x577 x578 =>
                                            spec_l8Cmp N x575 (x576, (x577, (x578, ())))
                                              (fun x579 =>
                                                let x580 := (decide (x579 ≤ (0 : Int)))
                                                k0 x580)))
                                else
                                  k0 false))))))
theorem spec_PairHas.ex : ∃ f : ((α : Type) → Nat → Int → (Int × Int × Unit) → (Bool × (List Int) × (List Int) × Unit) → (Bool → Option α) → Option α), f = fun α => @spec_PairHas.b α := ⟨_, rfl⟩
noncomputable def spec_PairHas {α : Type} : Nat → Int → (Int × Int × Unit) → (Bool × (List Int) × (List Int) × Unit) → (Bool → Option α) → Option α := Classical.choose spec_PairHas.ex α
theorem spec_PairHas.eq : @spec_PairHas = @spec_PairHas.b := funext fun α => congrFun (Classical.choose_spec spec_PairHas.ex) α

/-- loop.example/pinfold/spec.SpanHas -/
noncomputable def spec_SpanHas.b {α : Type} (N : Nat) (a38 : Int) (a39 : Bool × Int × Int × Unit) (a40 : Bool × (List Int) × (List Int) × Unit) (k0 : Bool → Option α) : Option α :=
  bif a39.1 then
    spec_l9Pair N a39
      (fun x42 =>
        spec_PairHas N a38 x42 a40
          (fun x581 =>
            k0 x581))
  else
    k0 false
theorem spec_SpanHas.ex : ∃ f : ((α : Type) → Nat → Int → (Bool × Int × Int × Unit) → (Bool × (List Int) × (List Int) × Unit) → (Bool → Option α) → Option α), f = fun α => @spec_SpanHas.b α := ⟨_, rfl⟩
noncomputable def spec_SpanHas {α : Type} : Nat → Int → (Bool × Int × Int × Unit) → (Bool × (List Int) × (List Int) × Unit) → (Bool → Option α) → Option α := Classical.choose spec_SpanHas.ex α
theorem spec_SpanHas.eq : @spec_SpanHas = @spec_SpanHas.b := funext fun α => congrFun (Classical.choose_spec spec_SpanHas.ex) α

/-- loop.example/pinfold/impl.formatOf -/
noncomputable def impl_formatOf.b {α : Type} (N : Nat) (a594 : Int) (k0 : (Int × Int × Int × Int × Unit) → Bool → Option α) : Option α :=
  let x595 := (decide (a594 = (32 : Int)))
  bif x595 then
    k0 ((23 : Int), ((-149 : Int), ((127 : Int), ((2139095040 : Int), ())))) true
  else
    let x596 := (decide (a594 = (64 : Int)))
    bif x596 then
      k0 ((52 : Int), ((-1074 : Int), ((1023 : Int), ((9218868437227405312 : Int), ())))) true
    else
      k0 ((0 : Int), ((0 : Int), ((0 : Int), ((0 : Int), ())))) false
theorem impl_formatOf.ex : ∃ f : ((α : Type) → Nat → Int → ((Int × Int × Int × Int × Unit) → Bool → Option α) → Option α), f = fun α => @impl_formatOf.b α := ⟨_, rfl⟩
noncomputable def impl_formatOf {α : Type} : Nat → Int → ((Int × Int × Int × Int × Unit) → Bool → Option α) → Option α := Classical.choose impl_formatOf.ex α
theorem impl_formatOf.eq : @impl_formatOf = @impl_formatOf.b := funext fun α => congrFun (Classical.choose_spec impl_formatOf.ex) α

/-- loop.example/pinfold/impl.BitTop -/
noncomputable def impl_BitTop.b {α : Type} (N : Nat) (a593 : Int) (k0 : Int → Option α) : Option α :=
  impl_formatOf N a593
    (fun x597 _ =>
      k0 x597.2.2.2.1)
theorem impl_BitTop.ex : ∃ f : ((α : Type) → Nat → Int → (Int → Option α) → Option α), f = fun α => @impl_BitTop.b α := ⟨_, rfl⟩
noncomputable def impl_BitTop {α : Type} : Nat → Int → (Int → Option α) → Option α := Classical.choose impl_BitTop.ex α
theorem impl_BitTop.eq : @impl_BitTop = @impl_BitTop.b := funext fun α => congrFun (Classical.choose_spec impl_BitTop.ex) α

/-- loop.example/pinfold/impl.in -/
noncomputable def impl_in.b {α : Type} (N : Nat) (a608 : Int) (a609 : Int) (a610 : Int) (k0 : Bool → Option α) : Option α :=
  let x611 := decide (a609 ≤ a608)
  bif x611 then
    let x612 := decide (a608 ≤ a610)
    k0 x612
  else
    k0 false
theorem impl_in.ex : ∃ f : ((α : Type) → Nat → Int → Int → Int → (Bool → Option α) → Option α), f = fun α => @impl_in.b α := ⟨_, rfl⟩
noncomputable def impl_in {α : Type} : Nat → Int → Int → Int → (Bool → Option α) → Option α := Classical.choose impl_in.ex α
theorem impl_in.eq : @impl_in = @impl_in.b := funext fun α => congrFun (Classical.choose_spec impl_in.ex) α

/-- loop.example/pinfold/impl.BitOk -/
noncomputable def impl_BitOk.b {α : Type} (N : Nat) (a603 : Int) (a604 : Int) (k0 : Bool → Option α) : Option α :=
  impl_formatOf N a603
    (fun x605 x606 =>
      bif x606 then
        let x607 := IntKind.i64.wrap (0 - x605.2.2.2.1)
        impl_in N a604 x607 x605.2.2.2.1
          (fun x613 =>
            k0 x613)
      else
        k0 false)
theorem impl_BitOk.ex : ∃ f : ((α : Type) → Nat → Int → Int → (Bool → Option α) → Option α), f = fun α => @impl_BitOk.b α := ⟨_, rfl⟩
noncomputable def impl_BitOk {α : Type} : Nat → Int → Int → (Bool → Option α) → Option α := Classical.choose impl_BitOk.ex α
theorem impl_BitOk.eq : @impl_BitOk = @impl_BitOk.b := funext fun α => congrFun (Classical.choose_spec impl_BitOk.ex) α

/-- loop.example/pinfold/impl.PairOk -/
noncomputable def impl_PairOk.b {α : Type} (N : Nat) (a600 : Int) (a601 : Int × Int × Unit) (k0 : Bool → Option α) : Option α :=
  impl_BitTop N a600
    (fun x602 =>
      impl_BitOk N a600 a601.1
        (fun x614 =>
          bif x614 then
            impl_BitOk N a600 a601.2.1
              (fun x615 =>
                bif x615 then
                  let x616 := decide (a601.1 ≤ a601.2.1)
                  bif x616 then
                    let x617 := !(decide (a601.1 = x602))
                    bif x617 then
                      let x618 := IntKind.i64.wrap (0 - x602)
                      let x619 := !(decide (a601.2.1 = x618))
                      k0 x619
                    else
                      k0 false
                  else
                    k0 false
                else
                  k0 false)
          else
            k0 false))
theorem impl_PairOk.ex : ∃ f : ((α : Type) → Nat → Int → (Int × Int × Unit) → (Bool → Option α) → Option α), f = fun α => @impl_PairOk.b α := ⟨_, rfl⟩
noncomputable def impl_PairOk {α : Type} : Nat → Int → (Int × Int × Unit) → (Bool → Option α) → Option α := Classical.choose impl_PairOk.ex α
theorem impl_PairOk.eq : @impl_PairOk = @impl_PairOk.b := funext fun α => congrFun (Classical.choose_spec impl_PairOk.ex) α

/-- loop.example/pinfold/impl.NatOk$1 -/
noncomputable def impl_NatOk_1.b {α : Type} (N : Nat) (a646 : Int) (k0 : Bool → Option α) : Option α :=
  impl_in N a646 (0 : Int) (65535 : Int)
    (fun x647 =>
      let x648 := !x647
      k0 x648)
theorem impl_NatOk_1.ex : ∃ f : ((α : Type) → Nat → Int → (Bool → Option α) → Option α), f = fun α => @impl_NatOk_1.b α := ⟨_, rfl⟩
noncomputable def impl_NatOk_1 {α : Type} : Nat → Int → (Bool → Option α) → Option α := Classical.choose impl_NatOk_1.ex α
theorem impl_NatOk_1.eq : @impl_NatOk_1 = @impl_NatOk_1.b := funext fun α => congrFun (Classical.choose_spec impl_NatOk_1.ex) α

noncomputable def slices_IndexFunc_int_int__impl_NatOk_1_L0r {α : Type} (N : Nat) (next : List Int → Int → Int → Option α) (k0 : Int → Option α) (k1 : Option α) (v641 : List Int) (v642 : Int) (v643 : Int) : Option α :=
  let x644 := decide (v643 < v642)
  bif x644 then
    bif (decide (v643 < (0 : Int))) then
      none
    else
      match v641[v643.toNat]? with
      | some x645 =>
        impl_NatOk_1 N x645
          (fun x649 =>
            bif x649 then
              k0 v643
            else
              let x650 := (IntKind.i64.wrap (v643 + (1 : Int)))
              next v641 v642 x650)
      | none => none
  else
    k1
noncomputable def slices_IndexFunc_int_int__impl_NatOk_1_L0.b {α : Type} (N n : Nat) (v641 : List Int) (v642 : Int) (v643 : Int) (k0 : Int → Option α) (k1 : Option α) : Option α :=
  Nat.rec (motive := fun _ => List Int → Int → Int → Option α) (fun _ _ _ => none) (fun _ next => slices_IndexFunc_int_int__impl_NatOk_1_L0r N next k0 k1) n v641 v642 v643
theorem slices_IndexFunc_int_int__impl_NatOk_1_L0.ex : ∃ f : ((α : Type) → Nat → Nat → List Int → Int → Int → (Int → Option α) → (Option α) → Option α), f = fun α => @slices_IndexFunc_int_int__impl_NatOk_1_L0.b α := ⟨_, rfl⟩
noncomputable def slices_IndexFunc_int_int__impl_NatOk_1_L0 {α : Type} : Nat → Nat → List Int → Int → Int → (Int → Option α) → (Option α) → Option α := Classical.choose slices_IndexFunc_int_int__impl_NatOk_1_L0.ex α
theorem slices_IndexFunc_int_int__impl_NatOk_1_L0.eq : @slices_IndexFunc_int_int__impl_NatOk_1_L0 = @slices_IndexFunc_int_int__impl_NatOk_1_L0.b := funext fun α => congrFun (Classical.choose_spec slices_IndexFunc_int_int__impl_NatOk_1_L0.ex) α
theorem slices_IndexFunc_int_int__impl_NatOk_1_L0.zero {α : Type} (N : Nat) (v641 : List Int) (v642 : Int) (v643 : Int) (k0 : Int → Option α) (k1 : Option α) : slices_IndexFunc_int_int__impl_NatOk_1_L0 N 0 v641 v642 v643 k0 k1 = none := by rw [slices_IndexFunc_int_int__impl_NatOk_1_L0.eq]; rfl
theorem slices_IndexFunc_int_int__impl_NatOk_1_L0.succ {α : Type} (N n : Nat) (v641 : List Int) (v642 : Int) (v643 : Int) (k0 : Int → Option α) (k1 : Option α) : slices_IndexFunc_int_int__impl_NatOk_1_L0 N (n + 1) v641 v642 v643 k0 k1 = slices_IndexFunc_int_int__impl_NatOk_1_L0r N (fun y0 y1 y2 => slices_IndexFunc_int_int__impl_NatOk_1_L0 N n y0 y1 y2 k0 k1) k0 k1 v641 v642 v643 := by rw [slices_IndexFunc_int_int__impl_NatOk_1_L0.eq]; rfl
/-- slices.IndexFunc[[]int,int] -/
noncomputable def slices_IndexFunc_int_int__impl_NatOk_1.b {α : Type} (N : Nat) (a639 : List Int) (k0 : Int → Option α) : Option α :=
  let x640 := ((a639.length : Nat) : Int)
  slices_IndexFunc_int_int__impl_NatOk_1_L0 N N a639 x640 (0 : Int)
    (fun x651 =>
      k0 x651)
    (
      k0 (-1 : Int))
theorem slices_IndexFunc_int_int__impl_NatOk_1.ex : ∃ f : ((α : Type) → Nat → List Int → (Int → Option α) → Option α), f = fun α => @slices_IndexFunc_int_int__impl_NatOk_1.b α := ⟨_, rfl⟩
noncomputable def slices_IndexFunc_int_int__impl_NatOk_1 {α : Type} : Nat → List Int → (Int → Option α) → Option α := Classical.choose slices_IndexFunc_int_int__impl_NatOk_1.ex α
theorem slices_IndexFunc_int_int__impl_NatOk_1.eq : @slices_IndexFunc_int_int__impl_NatOk_1 = @slices_IndexFunc_int_int__impl_NatOk_1.b := funext fun α => congrFun (Classical.choose_spec slices_IndexFunc_int_int__impl_NatOk_1.ex) α

/-- slices.ContainsFunc[[]int,int] -/
noncomputable def slices_ContainsFunc_int_int__impl_NatOk_1.b {α : Type} (N : Nat) (a638 : List Int) (k0 : Bool → Option α) : Option α :=
  slices_IndexFunc_int_int__impl_NatOk_1 N a638
    (fun x652 =>
      let x653 := (decide ((0 : Int) ≤ x652))
      k0 x653)
theorem slices_ContainsFunc_int_int__impl_NatOk_1.ex : ∃ f : ((α : Type) → Nat → List Int → (Bool → Option α) → Option α), f = fun α => @slices_ContainsFunc_int_int__impl_NatOk_1.b α := ⟨_, rfl⟩
noncomputable def slices_ContainsFunc_int_int__impl_NatOk_1 {α : Type} : Nat → List Int → (Bool → Option α) → Option α := Classical.choose slices_ContainsFunc_int_int__impl_NatOk_1.ex α
theorem slices_ContainsFunc_int_int__impl_NatOk_1.eq : @slices_ContainsFunc_int_int__impl_NatOk_1 = @slices_ContainsFunc_int_int__impl_NatOk_1.b := funext fun α => congrFun (Classical.choose_spec slices_ContainsFunc_int_int__impl_NatOk_1.ex) α

/-- loop.example/pinfold/impl.NatOk -/
noncomputable def impl_NatOk.b {α : Type} (N : Nat) (a633 : List Int) (k0 : Bool → Option α) : Option α :=
  let x634 := ((a633.length : Nat) : Int)
  let x635 := (decide (x634 ≤ (256 : Int)))
  bif x635 then
    let x636 := ((a633.length : Nat) : Int)
    let x637 := (decide (x636 = (0 : Int)))
    bif x637 then
      slices_ContainsFunc_int_int__impl_NatOk_1 N a633
        (fun x654 =>
          let x655 := !x654
          k0 x655)
    else
      let x656 := ((a633.length : Nat) : Int)
      let x657 := (IntKind.i64.wrap (x656 - (1 : Int)))
      bif (decide (x657 < (0 : Int))) then
        none
      else
        match a633[x657.toNat]? with
        | some x658 =>
          let x659 := (!(decide (x658 = (0 : Int))))
          bif x659 then
            slices_ContainsFunc_int_int__impl_NatOk_1 N a633
              (fun x660 =>
                let x661 := !x660
                k0 x661)
          else
            k0 false
        | none => none
  else
    k0 false
theorem impl_NatOk.ex : ∃ f : ((α : Type) → Nat → List Int → (Bool → Option α) → Option α), f = fun α => @impl_NatOk.b α := ⟨_, rfl⟩
noncomputable def impl_NatOk {α : Type} : Nat → List Int → (Bool → Option α) → Option α := Classical.choose impl_NatOk.ex α
theorem impl_NatOk.eq : @impl_NatOk = @impl_NatOk.b := funext fun α => congrFun (Classical.choose_spec impl_NatOk.ex) α

/-- loop.example/pinfold/impl.nats$1 -/
noncomputable def impl_nats_1.b {α : Type} (N : Nat) (a632 : List Int) (k0 : Bool → Option α) : Option α :=
  impl_NatOk N a632
    (fun x662 =>
      let x663 := !x662
      k0 x663)
theorem impl_nats_1.ex : ∃ f : ((α : Type) → Nat → List Int → (Bool → Option α) → Option α), f = fun α => @impl_nats_1.b α := ⟨_, rfl⟩
noncomputable def impl_nats_1 {α : Type} : Nat → List Int → (Bool → Option α) → Option α := Classical.choose impl_nats_1.ex α
theorem impl_nats_1.eq : @impl_nats_1 = @impl_nats_1.b := funext fun α => congrFun (Classical.choose_spec impl_nats_1.ex) α

noncomputable def slices_IndexFunc_int_int__impl_nats_1_L0r {α : Type} (N : Nat) (next : List (List Int) → Int → Int → Option α) (k0 : Int → Option α) (k1 : Option α) (v627 : List (List Int)) (v628 : Int) (v629 : Int) : Option α :=
  let x630 := decide (v629 < v628)
  bif x630 then
    bif (decide (v629 < (0 : Int))) then
      none
    else
      match v627[v629.toNat]? with
      | some x631 =>
        impl_nats_1 N x631
          (fun x664 =>
            bif x664 then
              k0 v629
            else
              let x665 := (IntKind.i64.wrap (v629 + (1 : Int)))
              next v627 v628 x665)
      | none => none
  else
    k1
noncomputable def slices_IndexFunc_int_int__impl_nats_1_L0.b {α : Type} (N n : Nat) (v627 : List (List Int)) (v628 : Int) (v629 : Int) (k0 : Int → Option α) (k1 : Option α) : Option α :=
  Nat.rec (motive := fun _ => List (List Int) → Int → Int → Option α) (fun _ _ _ => none) (fun _ next => slices_IndexFunc_int_int__impl_nats_1_L0r N next k0 k1) n v627 v628 v629
theorem slices_IndexFunc_int_int__impl_nats_1_L0.ex : ∃ f : ((α : Type) → Nat → Nat → List (List Int) → Int → Int → (Int → Option α) → (Option α) → Option α), f = fun α => @slices_IndexFunc_int_int__impl_nats_1_L0.b α := ⟨_, rfl⟩
noncomputable def slices_IndexFunc_int_int__impl_nats_1_L0 {α : Type} : Nat → Nat → List (List Int) → Int → Int → (Int → Option α) → (Option α) → Option α := Classical.choose slices_IndexFunc_int_int__impl_nats_1_L0.ex α
theorem slices_IndexFunc_int_int__impl_nats_1_L0.eq : @slices_IndexFunc_int_int__impl_nats_1_L0 = @slices_IndexFunc_int_int__impl_nats_1_L0.b := funext fun α => congrFun (Classical.choose_spec slices_IndexFunc_int_int__impl_nats_1_L0.ex) α
theorem slices_IndexFunc_int_int__impl_nats_1_L0.zero {α : Type} (N : Nat) (v627 : List (List Int)) (v628 : Int) (v629 : Int) (k0 : Int → Option α) (k1 : Option α) : slices_IndexFunc_int_int__impl_nats_1_L0 N 0 v627 v628 v629 k0 k1 = none := by rw [slices_IndexFunc_int_int__impl_nats_1_L0.eq]; rfl
theorem slices_IndexFunc_int_int__impl_nats_1_L0.succ {α : Type} (N n : Nat) (v627 : List (List Int)) (v628 : Int) (v629 : Int) (k0 : Int → Option α) (k1 : Option α) : slices_IndexFunc_int_int__impl_nats_1_L0 N (n + 1) v627 v628 v629 k0 k1 = slices_IndexFunc_int_int__impl_nats_1_L0r N (fun y0 y1 y2 => slices_IndexFunc_int_int__impl_nats_1_L0 N n y0 y1 y2 k0 k1) k0 k1 v627 v628 v629 := by rw [slices_IndexFunc_int_int__impl_nats_1_L0.eq]; rfl
/-- slices.IndexFunc[[][]int,[]int] -/
noncomputable def slices_IndexFunc_int_int__impl_nats_1.b {α : Type} (N : Nat) (a625 : List (List Int)) (k0 : Int → Option α) : Option α :=
  let x626 := ((a625.length : Nat) : Int)
  slices_IndexFunc_int_int__impl_nats_1_L0 N N a625 x626 (0 : Int)
    (fun x666 =>
      k0 x666)
    (
      k0 (-1 : Int))
theorem slices_IndexFunc_int_int__impl_nats_1.ex : ∃ f : ((α : Type) → Nat → List (List Int) → (Int → Option α) → Option α), f = fun α => @slices_IndexFunc_int_int__impl_nats_1.b α := ⟨_, rfl⟩
noncomputable def slices_IndexFunc_int_int__impl_nats_1 {α : Type} : Nat → List (List Int) → (Int → Option α) → Option α := Classical.choose slices_IndexFunc_int_int__impl_nats_1.ex α
theorem slices_IndexFunc_int_int__impl_nats_1.eq : @slices_IndexFunc_int_int__impl_nats_1 = @slices_IndexFunc_int_int__impl_nats_1.b := funext fun α => congrFun (Classical.choose_spec slices_IndexFunc_int_int__impl_nats_1.ex) α

/-- slices.ContainsFunc[[][]int,[]int] -/
noncomputable def slices_ContainsFunc_int_int__impl_nats_1.b {α : Type} (N : Nat) (a624 : List (List Int)) (k0 : Bool → Option α) : Option α :=
  slices_IndexFunc_int_int__impl_nats_1 N a624
    (fun x667 =>
      let x668 := (decide ((0 : Int) ≤ x667))
      k0 x668)
theorem slices_ContainsFunc_int_int__impl_nats_1.ex : ∃ f : ((α : Type) → Nat → List (List Int) → (Bool → Option α) → Option α), f = fun α => @slices_ContainsFunc_int_int__impl_nats_1.b α := ⟨_, rfl⟩
noncomputable def slices_ContainsFunc_int_int__impl_nats_1 {α : Type} : Nat → List (List Int) → (Bool → Option α) → Option α := Classical.choose slices_ContainsFunc_int_int__impl_nats_1.ex α
theorem slices_ContainsFunc_int_int__impl_nats_1.eq : @slices_ContainsFunc_int_int__impl_nats_1 = @slices_ContainsFunc_int_int__impl_nats_1.b := funext fun α => congrFun (Classical.choose_spec slices_ContainsFunc_int_int__impl_nats_1.ex) α

/-- loop.example/pinfold/impl.nats -/
noncomputable def impl_nats.b {α : Type} (N : Nat) (a623 : List (List Int)) (k0 : Bool → Option α) : Option α :=
  slices_ContainsFunc_int_int__impl_nats_1 N a623
    (fun x669 =>
      let x670 := !x669
      k0 x670)
theorem impl_nats.ex : ∃ f : ((α : Type) → Nat → List (List Int) → (Bool → Option α) → Option α), f = fun α => @impl_nats.b α := ⟨_, rfl⟩
noncomputable def impl_nats {α : Type} : Nat → List (List Int) → (Bool → Option α) → Option α := Classical.choose impl_nats.ex α
theorem impl_nats.eq : @impl_nats = @impl_nats.b := funext fun α => congrFun (Classical.choose_spec impl_nats.ex) α

noncomputable def impl_natCmp_L0r {α : Type} (N : Nat) (next : List Int → List Int → Int → Option α) (k0 : Int → Option α) (k1 : Option α) (v765 : List Int) (v766 : List Int) (v767 : Int) : Option α :=
  let x768 := (decide ((0 : Int) ≤ v767))
  bif x768 then
    bif (decide (v767 < (0 : Int))) then
      none
    else
      match v765[v767.toNat]? with
      | some x769 =>
        bif (decide (v767 < (0 : Int))) then
          none
        else
          match v766[v767.toNat]? with
          | some x770 =>
            let x771 := !(decide (x769 = x770))
            bif x771 then
              bif (decide (v767 < (0 : Int))) then
                none
              else
                match v765[v767.toNat]? with
                | some x772 =>
                  bif (decide (v767 < (0 : Int))) then
                    none
                  else
                    match v766[v767.toNat]? with
                    | some x773 =>
                      let x774 := IntKind.i64.wrap (x772 - x773)
                      let x775 := (minI (1 : Int) x774)
                      let x776 := (maxI (-1 : Int) x775)
                      k0 x776
                    | none => none
                | none => none
            else
              let x777 := (IntKind.i64.wrap (v767 - (1 : Int)))
              next v765 v766 x777
          | none => none
      | none => none
  else
    k1
noncomputable def impl_natCmp_L0.b {α : Type} (N n : Nat) (v765 : List Int) (v766 : List Int) (v767 : Int) (k0 : Int → Option α) (k1 : Option α) : Option α :=
  Nat.rec (motive := fun _ => List Int → List Int → Int → Option α) (fun _ _ _ => none) (fun _ next => impl_natCmp_L0r N next k0 k1) n v765 v766 v767
theorem impl_natCmp_L0.ex : ∃ f : ((α : Type) → Nat → Nat → List Int → List Int → Int → (Int → Option α) → (Option α) → Option α), f = fun α => @impl_natCmp_L0.b α := ⟨_, rfl⟩
noncomputable def impl_natCmp_L0 {α : Type} : Nat → Nat → List Int → List Int → Int → (Int → Option α) → (Option α) → Option α := Classical.choose impl_natCmp_L0.ex α
theorem impl_natCmp_L0.eq : @impl_natCmp_L0 = @impl_natCmp_L0.b := funext fun α => congrFun (Classical.choose_spec impl_natCmp_L0.ex) α
theorem impl_natCmp_L0.zero {α : Type} (N : Nat) (v765 : List Int) (v766 : List Int) (v767 : Int) (k0 : Int → Option α) (k1 : Option α) : impl_natCmp_L0 N 0 v765 v766 v767 k0 k1 = none := by rw [impl_natCmp_L0.eq]; rfl
theorem impl_natCmp_L0.succ {α : Type} (N n : Nat) (v765 : List Int) (v766 : List Int) (v767 : Int) (k0 : Int → Option α) (k1 : Option α) : impl_natCmp_L0 N (n + 1) v765 v766 v767 k0 k1 = impl_natCmp_L0r N (fun y0 y1 y2 => impl_natCmp_L0 N n y0 y1 y2 k0 k1) k0 k1 v765 v766 v767 := by rw [impl_natCmp_L0.eq]; rfl
/-- loop.example/pinfold/impl.natCmp -/
noncomputable def impl_natCmp.b {α : Type} (N : Nat) (a753 : List Int) (a754 : List Int) (k0 : Int → Option α) : Option α :=
  let x755 := ((a753.length : Nat) : Int)
  let x756 := ((a754.length : Nat) : Int)
  let x757 := !(decide (x755 = x756))
  bif x757 then
    let x758 := ((a753.length : Nat) : Int)
    let x759 := ((a754.length : Nat) : Int)
    let x760 := IntKind.i64.wrap (x758 - x759)
    let x761 := (minI (1 : Int) x760)
    let x762 := (maxI (-1 : Int) x761)
    k0 x762
  else
    let x763 := ((a753.length : Nat) : Int)
    let x764 := (IntKind.i64.wrap (x763 - (1 : Int)))
    impl_natCmp_L0 N N a753 a754 x764
      (fun x778 =>
        k0 x778)
      (
        k0 (0 : Int))
theorem impl_natCmp.ex : ∃ f : ((α : Type) → Nat → List Int → List Int → (Int → Option α) → Option α), f = fun α => @impl_natCmp.b α := ⟨_, rfl⟩
noncomputable def impl_natCmp {α : Type} : Nat → List Int → List Int → (Int → Option α) → Option α := Classical.choose impl_natCmp.ex α
theorem impl_natCmp.eq : @impl_natCmp = @impl_natCmp.b := funext fun α => congrFun (Classical.choose_spec impl_natCmp.ex) α

noncomputable def impl_trim_L0r {α : Type} (N : Nat) (next : List Int → Option α) (k0 : List Int → Option α) (v806 : List Int) : Option α :=
  let x807 := ((v806.length : Nat) : Int)
  let x808 := (decide ((0 : Int) < x807))
  bif x808 then
    let x809 := ((v806.length : Nat) : Int)
    let x810 := (IntKind.i64.wrap (x809 - (1 : Int)))
    bif (decide (x810 < (0 : Int))) then
      none
    else
      match v806[x810.toNat]? with
      | some x811 =>
        let x812 := (decide (x811 = (0 : Int)))
        bif x812 then
          let x813 := ((v806.length : Nat) : Int)
          let x814 := (IntKind.i64.wrap (x813 - (1 : Int)))
          bif (decide ((0 : Int) ≤ x814)) then
            bif (decide (x814 ≤ ((v806.length : Nat) : Int))) then
              let x815 := v806.take x814.toNat
              next x815
            else
              none
          else
            none
        else
          k0 v806
      | none => none
  else
    k0 v806
noncomputable def impl_trim_L0.b {α : Type} (N n : Nat) (v806 : List Int) (k0 : List Int → Option α) : Option α :=
  Nat.rec (motive := fun _ => List Int → Option α) (fun _ => none) (fun _ next => impl_trim_L0r N next k0) n v806
theorem impl_trim_L0.ex : ∃ f : ((α : Type) → Nat → Nat → List Int → (List Int → Option α) → Option α), f = fun α => @impl_trim_L0.b α := ⟨_, rfl⟩
noncomputable def impl_trim_L0 {α : Type} : Nat → Nat → List Int → (List Int → Option α) → Option α := Classical.choose impl_trim_L0.ex α
theorem impl_trim_L0.eq : @impl_trim_L0 = @impl_trim_L0.b := funext fun α => congrFun (Classical.choose_spec impl_trim_L0.ex) α
theorem impl_trim_L0.zero {α : Type} (N : Nat) (v806 : List Int) (k0 : List Int → Option α) : impl_trim_L0 N 0 v806 k0 = none := by rw [impl_trim_L0.eq]; rfl
theorem impl_trim_L0.succ {α : Type} (N n : Nat) (v806 : List Int) (k0 : List Int → Option α) : impl_trim_L0 N (n + 1) v806 k0 = impl_trim_L0r N (fun y0 => impl_trim_L0 N n y0 k0) k0 v806 := by rw [impl_trim_L0.eq]; rfl
/-- loop.example/pinfold/impl.trim -/
noncomputable def impl_trim.b {α : Type} (N : Nat) (a805 : List Int) (k0 : List Int → Option α) : Option α :=
  impl_trim_L0 N N a805
    (fun x816 =>
      k0 x816)
theorem impl_trim.ex : ∃ f : ((α : Type) → Nat → List Int → (List Int → Option α) → Option α), f = fun α => @impl_trim.b α := ⟨_, rfl⟩
noncomputable def impl_trim {α : Type} : Nat → List Int → (List Int → Option α) → Option α := Classical.choose impl_trim.ex α
theorem impl_trim.eq : @impl_trim = @impl_trim.b := funext fun α => congrFun (Classical.choose_spec impl_trim.ex) α

noncomputable def math_bits_Len64_J1.b {α : Type} (N : Nat) (v826 : Int) (v827 : Int) (k0 : Int → Int → Option α) : Option α :=
  let x828 := (decide ((4294967296 : Int) ≤ v826))
  bif x828 then
    let x829 := (shrI .u64 v826 (32 : Int))
    k0 x829 (32 : Int)
  else
    k0 v826 v827
theorem math_bits_Len64_J1.ex : ∃ f : ((α : Type) → Nat → Int → Int → (Int → Int → Option α) → Option α), f = fun α => @math_bits_Len64_J1.b α := ⟨_, rfl⟩
noncomputable def math_bits_Len64_J1 {α : Type} : Nat → Int → Int → (Int → Int → Option α) → Option α := Classical.choose math_bits_Len64_J1.ex α
theorem math_bits_Len64_J1.eq : @math_bits_Len64_J1 = @math_bits_Len64_J1.b := funext fun α => congrFun (Classical.choose_spec math_bits_Len64_J1.ex) α
noncomputable def math_bits_Len64_J4.b {α : Type} (N : Nat) (v832 : Int) (v833 : Int) (k0 : Int → Int → Option α) : Option α :=
  let x834 := (decide ((65536 : Int) ≤ v832))
  bif x834 then
    let x835 := (shrI .u64 v832 (16 : Int))
    let x836 := (IntKind.i64.wrap (v833 + (16 : Int)))
    k0 x835 x836
  else
    k0 v832 v833
theorem math_bits_Len64_J4.ex : ∃ f : ((α : Type) → Nat → Int → Int → (Int → Int → Option α) → Option α), f = fun α => @math_bits_Len64_J4.b α := ⟨_, rfl⟩
noncomputable def math_bits_Len64_J4 {α : Type} : Nat → Int → Int → (Int → Int → Option α) → Option α := Classical.choose math_bits_Len64_J4.ex α
theorem math_bits_Len64_J4.eq : @math_bits_Len64_J4 = @math_bits_Len64_J4.b := funext fun α => congrFun (Classical.choose_spec math_bits_Len64_J4.ex) α
noncomputable def math_bits_Len64_J7.b {α : Type} (N : Nat) (v839 : Int) (v840 : Int) (k0 : Int → Int → Option α) : Option α :=
  let x841 := (decide ((256 : Int) ≤ v839))
  bif x841 then
    let x842 := (shrI .u64 v839 (8 : Int))
    let x843 := (IntKind.i64.wrap (v840 + (8 : Int)))
    k0 x842 x843
  else
    k0 v839 v840
theorem math_bits_Len64_J7.ex : ∃ f : ((α : Type) → Nat → Int → Int → (Int → Int → Option α) → Option α), f = fun α => @math_bits_Len64_J7.b α := ⟨_, rfl⟩
noncomputable def math_bits_Len64_J7 {α : Type} : Nat → Int → Int → (Int → Int → Option α) → Option α := Classical.choose math_bits_Len64_J7.ex α
theorem math_bits_Len64_J7.eq : @math_bits_Len64_J7 = @math_bits_Len64_J7.b := funext fun α => congrFun (Classical.choose_spec math_bits_Len64_J7.ex) α
/-- math/bits.Len64 -/
noncomputable def math_bits_Len64.b {α : Type} (N : Nat) (a825 : Int) (k0 : Int → Option α) : Option α :=
  math_bits_Len64_J1 N a825 (0 : Int)
    (fun x830 x831 =>
      math_bits_Len64_J4 N x830 x831
        (fun x837 x838 =>
          math_bits_Len64_J7 N x837 x838
            (fun x844 x845 =>
              let x846 := IntKind.u8.wrap x844
              bif (decide (x846 < (0 : Int))) then
                none
              else
                match ((⟨#[0, 1, 2, 2, 3, 3, 3, 3, 4, 4, 4, 4, 4, 4, 4, 4, 5, 5, 5, 5, 5, 5, 5, 5, 5, 5, 5, 5, 5, 5, 5, 5, 6, 6, 6, 6, 6, 6, 6, 6, 6, 6, 6, 6, 6, 6, 6, 6, 6, 6, 6, 6, 6, 6, 6, 6, 6, 6, 6, 6, 6, 6, 6, 6, 7, 7, 7, 7, 7, 7, 7, 7, 7, 7, 7, 7, 7, 7, 7, 7, 7, 7, 7, 7, 7, 7, 7, 7, 7, 7, 7, 7, 7, 7, 7, 7, 7, 7, 7, 7, 7, 7, 7, 7, 7, 7, 7, 7, 7, 7, 7, 7, 7, 7, 7, 7, 7, 7, 7, 7, 7, 7, 7, 7, 7, 7, 7, 7, 8, 8, 8, 8, 8, 8, 8, 8, 8, 8, 8, 8, 8, 8, 8, 8, 8, 8, 8, 8, 8, 8, 8, 8, 8, 8, 8, 8, 8, 8, 8, 8, 8, 8, 8, 8, 8, 8, 8, 8, 8, 8, 8, 8, 8, 8, 8, 8, 8, 8, 8, 8, 8, 8, 8, 8, 8, 8, 8, 8, 8, 8, 8, 8, 8, 8, 8, 8, 8, 8, 8, 8, 8, 8, 8, 8, 8, 8, 8, 8, 8, 8, 8, 8, 8, 8, 8, 8, 8, 8, 8, 8, 8, 8, 8, 8, 8, 8, 8, 8, 8, 8, 8, 8, 8, 8, 8, 8, 8, 8, 8, 8, 8, 8, 8, 8, 8, 8, 8, 8, 8, 8, 8, 8, 8, 8, 8, 8]⟩ : ByteArray)[x846.toNat]? : Option UInt8) with
                | some x847 =>
                  let x848 := ((x847.toNat : Nat) : Int)
                  let x849 := IntKind.i64.wrap x848
                  let x850 := IntKind.i64.wrap (x845 + x849)
                  k0 x850
                | none => none)))
theorem math_bits_Len64.ex : ∃ f : ((α : Type) → Nat → Int → (Int → Option α) → Option α), f = fun α => @math_bits_Len64.b α := ⟨_, rfl⟩
noncomputable def math_bits_Len64 {α : Type} : Nat → Int → (Int → Option α) → Option α := Classical.choose math_bits_Len64.ex α
theorem math_bits_Len64.eq : @math_bits_Len64 = @math_bits_Len64.b := funext fun α => congrFun (Classical.choose_spec math_bits_Len64.ex) α

/-- math/bits.Len -/
noncomputable def math_bits_Len.b {α : Type} (N : Nat) (a824 : Int) (k0 : Int → Option α) : Option α :=
  math_bits_Len64 N a824
    (fun x851 =>
      k0 x851)
theorem math_bits_Len.ex : ∃ f : ((α : Type) → Nat → Int → (Int → Option α) → Option α), f = fun α => @math_bits_Len.b α := ⟨_, rfl⟩
noncomputable def math_bits_Len {α : Type} : Nat → Int → (Int → Option α) → Option α := Classical.choose math_bits_Len.ex α
theorem math_bits_Len.eq : @math_bits_Len = @math_bits_Len.b := funext fun α => congrFun (Classical.choose_spec math_bits_Len.ex) α

/-- slices.Clone[[]int,int] -/
noncomputable def slices_Clone_int_int {α : Type} (N : Nat) (a1 : List Int) (k0 : List Int → Option α) : Option α :=
  bif decide (([] : List Int).length + a1.length ≤ 8796093022208) then k0 a1 else none

noncomputable def impl_natShift_J10.b {α : Type} (N : Nat) (v930 : List Int) (v931 : Int) (v932 : Int) (v933 : Int) (v934 : Int) (v935 : Int) (v936 : List Int) (k0 : List Int → Int → Int → Int → Int → List Int → Option α) : Option α :=
  let x937 := IntKind.i64.wrap (v931 + v933)
  let x938 := (IntKind.i64.wrap (x937 + (1 : Int)))
  let x939 := ((v930.length : Nat) : Int)
  let x940 := decide (x938 < x939)
  bif x940 then
    bif (decide (v933 < (0 : Int))) then
      none
    else
      bif decide (v933.toNat < v936.length) then
        match v936[v933.toNat]? with
        | some x941 =>
          let x942 := IntKind.i64.wrap (v931 + v933)
          let x943 := (IntKind.i64.wrap (x942 + (1 : Int)))
          bif (decide (x943 < (0 : Int))) then
            none
          else
            match v930[x943.toNat]? with
            | some x944 =>
              let x945 := (IntKind.i64.wrap ((16 : Int) - v932))
              bif (decide (x945 < (0 : Int))) then
                none
              else
                let x946 := shlI .i64 x944 x945
                let x947 := (bitI .and .i64 x946 (65535 : Int))
                let x948 := bitI .or .i64 x941 x947
                bif (decide (v933 < (0 : Int))) then
                  none
                else
                  bif decide (v933.toNat < v936.length) then
                    match v936[v933.toNat]? with
                    | some x949 =>
                      let x950 := v936.set v933.toNat x948
                      k0 v930 v931 v932 v934 v935 x950
                    | none => none
                  else
                    none
            | none => none
        | none => none
      else
        none
  else
    k0 v930 v931 v932 v934 v935 v936
theorem impl_natShift_J10.ex : ∃ f : ((α : Type) → Nat → List Int → Int → Int → Int → Int → Int → List Int → (List Int → Int → Int → Int → Int → List Int → Option α) → Option α), f = fun α => @impl_natShift_J10.b α := ⟨_, rfl⟩
noncomputable def impl_natShift_J10 {α : Type} : Nat → List Int → Int → Int → Int → Int → Int → List Int → (List Int → Int → Int → Int → Int → List Int → Option α) → Option α := Classical.choose impl_natShift_J10.ex α
theorem impl_natShift_J10.eq : @impl_natShift_J10 = @impl_natShift_J10.b := funext fun α => congrFun (Classical.choose_spec impl_natShift_J10.ex) α
noncomputable def impl_natShift_L0r {α : Type} (N : Nat) (next : List Int → Int → Int → Int → Int → List Int → Option α) (k0 : List Int → Option α) (v919 : List Int) (v920 : Int) (v921 : Int) (v922 : Int) (v923 : Int) (v924 : List Int) : Option α :=
  let x925 := decide (v923 < v922)
  bif x925 then
    bif (decide (v923 < (0 : Int))) then
      none
    else
      bif decide (v923.toNat < v924.length) then
        match v924[v923.toNat]? with
        | some x926 =>
          bif (decide (v921 < (0 : Int))) then
            none
          else
            let x927 := shrI .i64 x926 v921
            bif (decide (v923 < (0 : Int))) then
              none
            else
              bif decide (v923.toNat < v924.length) then
                match v924[v923.toNat]? with
                | some x928 =>
                  let x929 := v924.set v923.toNat x927
                  impl_natShift_J10 N v919 v920 v921 v923 v922 v923 x929
                    (fun x951 x952 x953 x954 x955 x956 =>
                      let x957 := (IntKind.i64.wrap (x955 + (1 : Int)))
                      next x951 x952 x953 x954 x957 x956)
                | none => none
              else
                none
        | none => none
      else
        none
  else
    k0 v924
noncomputable def impl_natShift_L0.b {α : Type} (N n : Nat) (v919 : List Int) (v920 : Int) (v921 : Int) (v922 : Int) (v923 : Int) (v924 : List Int) (k0 : List Int → Option α) : Option α :=
  Nat.rec (motive := fun _ => List Int → Int → Int → Int → Int → List Int → Option α) (fun _ _ _ _ _ _ => none) (fun _ next => impl_natShift_L0r N next k0) n v919 v920 v921 v922 v923 v924
theorem impl_natShift_L0.ex : ∃ f : ((α : Type) → Nat → Nat → List Int → Int → Int → Int → Int → List Int → (List Int → Option α) → Option α), f = fun α => @impl_natShift_L0.b α := ⟨_, rfl⟩
noncomputable def impl_natShift_L0 {α : Type} : Nat → Nat → List Int → Int → Int → Int → Int → List Int → (List Int → Option α) → Option α := Classical.choose impl_natShift_L0.ex α
theorem impl_natShift_L0.eq : @impl_natShift_L0 = @impl_natShift_L0.b := funext fun α => congrFun (Classical.choose_spec impl_natShift_L0.ex) α
theorem impl_natShift_L0.zero {α : Type} (N : Nat) (v919 : List Int) (v920 : Int) (v921 : Int) (v922 : Int) (v923 : Int) (v924 : List Int) (k0 : List Int → Option α) : impl_natShift_L0 N 0 v919 v920 v921 v922 v923 v924 k0 = none := by rw [impl_natShift_L0.eq]; rfl
theorem impl_natShift_L0.succ {α : Type} (N n : Nat) (v919 : List Int) (v920 : Int) (v921 : Int) (v922 : Int) (v923 : Int) (v924 : List Int) (k0 : List Int → Option α) : impl_natShift_L0 N (n + 1) v919 v920 v921 v922 v923 v924 k0 = impl_natShift_L0r N (fun y0 y1 y2 y3 y4 y5 => impl_natShift_L0 N n y0 y1 y2 y3 y4 y5 k0) k0 v919 v920 v921 v922 v923 v924 := by rw [impl_natShift_L0.eq]; rfl
noncomputable def impl_natShift_L2r {α : Type} (N : Nat) (next : Int → List Int → Int → Int → List Int → Option α) (k0 : List Int → Option α) (v966 : Int) (v967 : List Int) (v968 : Int) (v969 : Int) (v970 : List Int) : Option α :=
  let x971 := decide (v969 < v968)
  bif x971 then
    bif (decide (v969 < (0 : Int))) then
      none
    else
      match v967[v969.toNat]? with
      | some x972 =>
        let x973 := (Int.tmod v966 (16 : Int))
        bif (decide (x973 < (0 : Int))) then
          none
        else
          let x974 := shlI .i64 x972 x973
          let x975 := (IntKind.i64.wrap (Int.tdiv v966 (16 : Int)))
          let x976 := IntKind.i64.wrap (x975 + v969)
          bif (decide (x976 < (0 : Int))) then
            none
          else
            bif decide (x976.toNat < v970.length) then
              match v970[x976.toNat]? with
              | some x977 =>
                let x978 := (bitI .and .i64 x974 (65535 : Int))
                let x979 := bitI .or .i64 x977 x978
                bif (decide (x976 < (0 : Int))) then
                  none
                else
                  bif decide (x976.toNat < v970.length) then
                    match v970[x976.toNat]? with
                    | some x980 =>
                      let x981 := v970.set x976.toNat x979
                      let x982 := (IntKind.i64.wrap (Int.tdiv v966 (16 : Int)))
                      let x983 := IntKind.i64.wrap (x982 + v969)
                      let x984 := (IntKind.i64.wrap (x983 + (1 : Int)))
                      let x985 := (shrI .i64 x974 (16 : Int))
                      bif (decide (x984 < (0 : Int))) then
                        none
                      else
                        bif decide (x984.toNat < x981.length) then
                          match x981[x984.toNat]? with
                          | some x986 =>
                            let x987 := x981.set x984.toNat x985
                            let x988 := (IntKind.i64.wrap (v969 + (1 : Int)))
                            next v966 v967 v968 x988 x987
                          | none => none
                        else
                          none
                    | none => none
                  else
                    none
              | none => none
            else
              none
      | none => none
  else
    k0 v970
noncomputable def impl_natShift_L2.b {α : Type} (N n : Nat) (v966 : Int) (v967 : List Int) (v968 : Int) (v969 : Int) (v970 : List Int) (k0 : List Int → Option α) : Option α :=
  Nat.rec (motive := fun _ => Int → List Int → Int → Int → List Int → Option α) (fun _ _ _ _ _ => none) (fun _ next => impl_natShift_L2r N next k0) n v966 v967 v968 v969 v970
theorem impl_natShift_L2.ex : ∃ f : ((α : Type) → Nat → Nat → Int → List Int → Int → Int → List Int → (List Int → Option α) → Option α), f = fun α => @impl_natShift_L2.b α := ⟨_, rfl⟩
noncomputable def impl_natShift_L2 {α : Type} : Nat → Nat → Int → List Int → Int → Int → List Int → (List Int → Option α) → Option α := Classical.choose impl_natShift_L2.ex α
theorem impl_natShift_L2.eq : @impl_natShift_L2 = @impl_natShift_L2.b := funext fun α => congrFun (Classical.choose_spec impl_natShift_L2.ex) α
theorem impl_natShift_L2.zero {α : Type} (N : Nat) (v966 : Int) (v967 : List Int) (v968 : Int) (v969 : Int) (v970 : List Int) (k0 : List Int → Option α) : impl_natShift_L2 N 0 v966 v967 v968 v969 v970 k0 = none := by rw [impl_natShift_L2.eq]; rfl
theorem impl_natShift_L2.succ {α : Type} (N n : Nat) (v966 : Int) (v967 : List Int) (v968 : Int) (v969 : Int) (v970 : List Int) (k0 : List Int → Option α) : impl_natShift_L2 N (n + 1) v966 v967 v968 v969 v970 k0 = impl_natShift_L2r N (fun y0 y1 y2 y3 y4 => impl_natShift_L2 N n y0 y1 y2 y3 y4 k0) k0 v966 v967 v968 v969 v970 := by rw [impl_natShift_L2.eq]; rfl
/-- loop.example/pinfold/impl.natShift -/
noncomputable def impl_natShift.b {α : Type} (N : Nat) (a907 : List Int) (a908 : Int) (k0 : List Int → Option α) : Option α :=
  let x909 := (decide (a908 < (0 : Int)))
  bif x909 then
    let x910 := IntKind.i64.wrap (0 - a908)
    let x911 := (IntKind.i64.wrap (Int.tdiv x910 (16 : Int)))
    let x912 := IntKind.i64.wrap (0 - a908)
    let x913 := (Int.tmod x912 (16 : Int))
    let x914 := ((a907.length : Nat) : Int)
    let x915 := decide (x914 ≤ x911)
    bif x915 then
      k0 []
    else
      bif (decide ((0 : Int) ≤ x911)) then
        bif (decide (x911 ≤ ((a907.length : Nat) : Int))) then
          let x916 := a907.drop x911.toNat
          slices_Clone_int_int N x916
            (fun x917 =>
              let x918 := ((x917.length : Nat) : Int)
              impl_natShift_L0 N N a907 x911 x913 x918 (0 : Int) x917
                (fun x958 =>
                  impl_trim N x958
                    (fun x959 =>
                      k0 x959)))
        else
          none
      else
        none
  else
    let x960 := (IntKind.i64.wrap (Int.tdiv a908 (16 : Int)))
    let x961 := ((a907.length : Nat) : Int)
    let x962 := IntKind.i64.wrap (x960 + x961)
    let x963 := (IntKind.i64.wrap (x962 + (1 : Int)))
    bif (decide ((0 : Int) ≤ x963)) then
      bif decide (x963 ≤ x963) then
        bif (decide (x963 ≤ ((8796093022208 : Nat) : Int))) then
          let x964 := (List.replicate x963.toNat (0 : Int))
          let x965 := ((a907.length : Nat) : Int)
          impl_natShift_L2 N N a908 a907 x965 (0 : Int) x964
            (fun x989 =>
              impl_trim N x989
                (fun x990 =>
                  k0 x990))
        else
          none
      else
        none
    else
      none
theorem impl_natShift.ex : ∃ f : ((α : Type) → Nat → List Int → Int → (List Int → Option α) → Option α), f = fun α => @impl_natShift.b α := ⟨_, rfl⟩
noncomputable def impl_natShift {α : Type} : Nat → List Int → Int → (List Int → Option α) → Option α := Classical.choose impl_natShift.ex α
theorem impl_natShift.eq : @impl_natShift = @impl_natShift.b := funext fun α => congrFun (Classical.choose_spec impl_natShift.ex) α

noncomputable def impl_natDiv_L0r {α : Type} (N : Nat) (next : List Int → List Int → Int → Int → List Int → Option α) (k0 : Int → List Int → Option α) (v787 : List Int) (v788 : List Int) (v789 : Int) (v790 : Int) (v791 : List Int) : Option α :=
  let x792 := (decide ((0 : Int) ≤ v790))
  bif x792 then
    let x793 := (shlI .i64 v789 (16 : Int))
    bif (decide (v790 < (0 : Int))) then
      none
    else
      match v787[v790.toNat]? with
      | some x794 =>
        let x795 := bitI .or .i64 x793 x794
        match v788[0]? with
        | some x796 =>
          bif (decide (x796 = (0 : Int))) then
            none
          else
            let x797 := IntKind.i64.wrap (Int.tdiv x795 x796)
            match v788[0]? with
            | some x798 =>
              bif (decide (x798 = (0 : Int))) then
                none
              else
                let x799 := Int.tmod x795 x798
                bif (decide (v790 < (0 : Int))) then
                  none
                else
                  bif decide (v790.toNat < v791.length) then
                    match v791[v790.toNat]? with
                    | some x800 =>
                      let x801 := v791.set v790.toNat x797
                      let x802 := (IntKind.i64.wrap (v790 - (1 : Int)))
                      next v787 v788 x799 x802 x801
                    | none => none
                  else
                    none
            | none => none
        | none => none
      | none => none
  else
    k0 v789 v791
noncomputable def impl_natDiv_L0.b {α : Type} (N n : Nat) (v787 : List Int) (v788 : List Int) (v789 : Int) (v790 : Int) (v791 : List Int) (k0 : Int → List Int → Option α) : Option α :=
  Nat.rec (motive := fun _ => List Int → List Int → Int → Int → List Int → Option α) (fun _ _ _ _ _ => none) (fun _ next => impl_natDiv_L0r N next k0) n v787 v788 v789 v790 v791
theorem impl_natDiv_L0.ex : ∃ f : ((α : Type) → Nat → Nat → List Int → List Int → Int → Int → List Int → (Int → List Int → Option α) → Option α), f = fun α => @impl_natDiv_L0.b α := ⟨_, rfl⟩
noncomputable def impl_natDiv_L0 {α : Type} : Nat → Nat → List Int → List Int → Int → Int → List Int → (Int → List Int → Option α) → Option α := Classical.choose impl_natDiv_L0.ex α
theorem impl_natDiv_L0.eq : @impl_natDiv_L0 = @impl_natDiv_L0.b := funext fun α => congrFun (Classical.choose_spec impl_natDiv_L0.ex) α
theorem impl_natDiv_L0.zero {α : Type} (N : Nat) (v787 : List Int) (v788 : List Int) (v789 : Int) (v790 : Int) (v791 : List Int) (k0 : Int → List Int → Option α) : impl_natDiv_L0 N 0 v787 v788 v789 v790 v791 k0 = none := by rw [impl_natDiv_L0.eq]; rfl
theorem impl_natDiv_L0.succ {α : Type} (N n : Nat) (v787 : List Int) (v788 : List Int) (v789 : Int) (v790 : Int) (v791 : List Int) (k0 : Int → List Int → Option α) : impl_natDiv_L0 N (n + 1) v787 v788 v789 v790 v791 k0 = impl_natDiv_L0r N (fun y0 y1 y2 y3 y4 => impl_natDiv_L0 N n y0 y1 y2 y3 y4 k0) k0 v787 v788 v789 v790 v791 := by rw [impl_natDiv_L0.eq]; rfl
noncomputable def impl_natDiv_L2r {α : Type} (N : Nat) (next : List Int → Int → List Int → Int → List Int → Option α) (k0 : Int → List Int → Int → List Int → Option α) (v997 : List Int) (v998 : Int) (v999 : List Int) (v1000 : Int) (v1001 : List Int) : Option α :=
  let x1002 := ((v1001.length : Nat) : Int)
  let x1003 := ((v997.length : Nat) : Int)
  let x1004 := (IntKind.i64.wrap (x1003 + (1 : Int)))
  let x1005 := decide (x1002 < x1004)
  bif x1005 then
    let x1006 := [(0 : Int)]
    bif decide (v1001.length + x1006.length ≤ 8796093022208) then
      let x1007 := v1001 ++ x1006
      next v997 v998 v999 v1000 x1007
    else
      none
  else
    k0 v998 v999 v1000 v1001
noncomputable def impl_natDiv_L2.b {α : Type} (N n : Nat) (v997 : List Int) (v998 : Int) (v999 : List Int) (v1000 : Int) (v1001 : List Int) (k0 : Int → List Int → Int → List Int → Option α) : Option α :=
  Nat.rec (motive := fun _ => List Int → Int → List Int → Int → List Int → Option α) (fun _ _ _ _ _ => none) (fun _ next => impl_natDiv_L2r N next k0) n v997 v998 v999 v1000 v1001
theorem impl_natDiv_L2.ex : ∃ f : ((α : Type) → Nat → Nat → List Int → Int → List Int → Int → List Int → (Int → List Int → Int → List Int → Option α) → Option α), f = fun α => @impl_natDiv_L2.b α := ⟨_, rfl⟩
noncomputable def impl_natDiv_L2 {α : Type} : Nat → Nat → List Int → Int → List Int → Int → List Int → (Int → List Int → Int → List Int → Option α) → Option α := Classical.choose impl_natDiv_L2.ex α
theorem impl_natDiv_L2.eq : @impl_natDiv_L2 = @impl_natDiv_L2.b := funext fun α => congrFun (Classical.choose_spec impl_natDiv_L2.ex) α
theorem impl_natDiv_L2.zero {α : Type} (N : Nat) (v997 : List Int) (v998 : Int) (v999 : List Int) (v1000 : Int) (v1001 : List Int) (k0 : Int → List Int → Int → List Int → Option α) : impl_natDiv_L2 N 0 v997 v998 v999 v1000 v1001 k0 = none := by rw [impl_natDiv_L2.eq]; rfl
theorem impl_natDiv_L2.succ {α : Type} (N n : Nat) (v997 : List Int) (v998 : Int) (v999 : List Int) (v1000 : Int) (v1001 : List Int) (k0 : Int → List Int → Int → List Int → Option α) : impl_natDiv_L2 N (n + 1) v997 v998 v999 v1000 v1001 k0 = impl_natDiv_L2r N (fun y0 y1 y2 y3 y4 => impl_natDiv_L2 N n y0 y1 y2 y3 y4 k0) k0 v997 v998 v999 v1000 v1001 := by rw [impl_natDiv_L2.eq]; rfl
noncomputable def impl_natDiv_L6r {α : Type} (N : Nat) (next : Int → List Int → Int → Int → Int → Int → List Int → List Int → Option α) (k0 : Int → List Int → Int → Int → Int → List Int → List Int → Option α) (v1038 : Int) (v1039 : List Int) (v1040 : Int) (v1041 : Int) (v1042 : Int) (v1043 : Int) (v1044 : List Int) (v1045 : List Int) : Option α :=
  let x1046 := (decide ((65536 : Int) ≤ v1042))
  bif x1046 then
    let x1047 := (IntKind.i64.wrap (v1042 - (1 : Int)))
    let x1048 := (IntKind.i64.wrap (v1040 - (1 : Int)))
    bif (decide (x1048 < (0 : Int))) then
      none
    else
      match v1039[x1048.toNat]? with
      | some x1049 =>
        let x1050 := IntKind.i64.wrap (v1043 + x1049)
        let x1051 := (decide ((65536 : Int) ≤ x1050))
        bif x1051 then
          k0 v1038 v1039 v1040 v1041 x1047 v1044 v1045
        else
          next v1038 v1039 v1040 v1041 x1047 x1050 v1044 v1045
      | none => none
  else
    let x1052 := (IntKind.i64.wrap (v1040 - (2 : Int)))
    bif (decide (x1052 < (0 : Int))) then
      none
    else
      match v1039[x1052.toNat]? with
      | some x1053 =>
        let x1054 := IntKind.i64.wrap (v1042 * x1053)
        let x1055 := (shlI .i64 v1043 (16 : Int))
        let x1056 := IntKind.i64.wrap (v1041 + v1040)
        let x1057 := (IntKind.i64.wrap (x1056 - (2 : Int)))
        bif (decide (x1057 < (0 : Int))) then
          none
        else
          bif decide (x1057.toNat < v1044.length) then
            match v1044[x1057.toNat]? with
            | some x1058 =>
              let x1059 := bitI .or .i64 x1055 x1058
              let x1060 := decide (x1059 < x1054)
              bif x1060 then
                let x1061 := (IntKind.i64.wrap (v1042 - (1 : Int)))
                let x1062 := (IntKind.i64.wrap (v1040 - (1 : Int)))
                bif (decide (x1062 < (0 : Int))) then
                  none
                else
                  match v1039[x1062.toNat]? with
                  | some x1063 =>
                    let x1064 := IntKind.i64.wrap (v1043 + x1063)
                    let x1065 := (decide ((65536 : Int) ≤ x1064))
                    bif x1065 then
                      k0 v1038 v1039 v1040 v1041 x1061 v1044 v1045
                    else
                      next v1038 v1039 v1040 v1041 x1061 x1064 v1044 v1045
                  | none => none
              else
                k0 v1038 v1039 v1040 v1041 v1042 v1044 v1045
            | none => none
          else
            none
      | none => none
noncomputable def impl_natDiv_L6.b {α : Type} (N n : Nat) (v1038 : Int) (v1039 : List Int) (v1040 : Int) (v1041 : Int) (v1042 : Int) (v1043 : Int) (v1044 : List Int) (v1045 : List Int) (k0 : Int → List Int → Int → Int → Int → List Int → List Int → Option α) : Option α :=
  Nat.rec (motive := fun _ => Int → List Int → Int → Int → Int → Int → List Int → List Int → Option α) (fun _ _ _ _ _ _ _ _ => none) (fun _ next => impl_natDiv_L6r N next k0) n v1038 v1039 v1040 v1041 v1042 v1043 v1044 v1045
theorem impl_natDiv_L6.ex : ∃ f : ((α : Type) → Nat → Nat → Int → List Int → Int → Int → Int → Int → List Int → List Int → (Int → List Int → Int → Int → Int → List Int → List Int → Option α) → Option α), f = fun α => @impl_natDiv_L6.b α := ⟨_, rfl⟩
noncomputable def impl_natDiv_L6 {α : Type} : Nat → Nat → Int → List Int → Int → Int → Int → Int → List Int → List Int → (Int → List Int → Int → Int → Int → List Int → List Int → Option α) → Option α := Classical.choose impl_natDiv_L6.ex α
theorem impl_natDiv_L6.eq : @impl_natDiv_L6 = @impl_natDiv_L6.b := funext fun α => congrFun (Classical.choose_spec impl_natDiv_L6.ex) α
theorem impl_natDiv_L6.zero {α : Type} (N : Nat) (v1038 : Int) (v1039 : List Int) (v1040 : Int) (v1041 : Int) (v1042 : Int) (v1043 : Int) (v1044 : List Int) (v1045 : List Int) (k0 : Int → List Int → Int → Int → Int → List Int → List Int → Option α) : impl_natDiv_L6 N 0 v1038 v1039 v1040 v1041 v1042 v1043 v1044 v1045 k0 = none := by rw [impl_natDiv_L6.eq]; rfl
theorem impl_natDiv_L6.succ {α : Type} (N n : Nat) (v1038 : Int) (v1039 : List Int) (v1040 : Int) (v1041 : Int) (v1042 : Int) (v1043 : Int) (v1044 : List Int) (v1045 : List Int) (k0 : Int → List Int → Int → Int → Int → List Int → List Int → Option α) : impl_natDiv_L6 N (n + 1) v1038 v1039 v1040 v1041 v1042 v1043 v1044 v1045 k0 = impl_natDiv_L6r N (fun y0 y1 y2 y3 y4 y5 y6 y7 => impl_natDiv_L6 N n y0 y1 y2 y3 y4 y5 y6 y7 k0) k0 v1038 v1039 v1040 v1041 v1042 v1043 v1044 v1045 := by rw [impl_natDiv_L6.eq]; rfl
noncomputable def impl_natDiv_J34.b {α : Type} (N : Nat) (v1092 : Int) (v1093 : List Int) (v1094 : Int) (v1095 : Int) (v1096 : Int) (v1097 : Int) (v1098 : Int) (v1099 : Int) (v1100 : List Int) (v1101 : Int) (v1102 : Int) (v1103 : List Int) (v1104 : List Int) (k0 : Int → List Int → Int → Int → Int → Int → Int → Int → List Int → Int → Int → List Int → List Int → Option α) : Option α :=
  let x1105 := (decide (v1099 < (0 : Int)))
  bif x1105 then
    let x1106 := IntKind.i64.wrap (0 - v1099)
    let x1107 := (IntKind.i64.wrap (x1106 + (65536 : Int)))
    let x1108 := (IntKind.i64.wrap (x1107 - (1 : Int)))
    let x1109 := (IntKind.i64.wrap (Int.tdiv x1108 (65536 : Int)))
    let x1110 := (IntKind.i64.wrap (x1109 * (65536 : Int)))
    let x1111 := IntKind.i64.wrap (v1099 + x1110)
    k0 v1092 v1093 v1094 v1095 v1096 x1109 v1098 x1111 v1100 v1101 v1102 v1103 v1104
  else
    k0 v1092 v1093 v1094 v1095 v1096 v1097 v1098 v1099 v1100 v1101 v1102 v1103 v1104
theorem impl_natDiv_J34.ex : ∃ f : ((α : Type) → Nat → Int → List Int → Int → Int → Int → Int → Int → Int → List Int → Int → Int → List Int → List Int → (Int → List Int → Int → Int → Int → Int → Int → Int → List Int → Int → Int → List Int → List Int → Option α) → Option α), f = fun α => @impl_natDiv_J34.b α := ⟨_, rfl⟩
noncomputable def impl_natDiv_J34 {α : Type} : Nat → Int → List Int → Int → Int → Int → Int → Int → Int → List Int → Int → Int → List Int → List Int → (Int → List Int → Int → Int → Int → Int → Int → Int → List Int → Int → Int → List Int → List Int → Option α) → Option α := Classical.choose impl_natDiv_J34.ex α
theorem impl_natDiv_J34.eq : @impl_natDiv_J34 = @impl_natDiv_J34.b := funext fun α => congrFun (Classical.choose_spec impl_natDiv_J34.ex) α
noncomputable def impl_natDiv_L8r {α : Type} (N : Nat) (next : Int → List Int → Int → Int → Int → Int → List Int → Int → Int → List Int → List Int → Option α) (k0 : Int → List Int → Int → Int → Int → Int → List Int → List Int → Option α) (v1074 : Int) (v1075 : List Int) (v1076 : Int) (v1077 : Int) (v1078 : Int) (v1079 : Int) (v1080 : List Int) (v1081 : Int) (v1082 : Int) (v1083 : List Int) (v1084 : List Int) : Option α :=
  let x1085 := decide (v1082 < v1081)
  bif x1085 then
    bif (decide (v1082 < (0 : Int))) then
      none
    else
      match v1080[v1082.toNat]? with
      | some x1086 =>
        let x1087 := IntKind.i64.wrap (v1077 + v1082)
        bif (decide (x1087 < (0 : Int))) then
          none
        else
          bif decide (x1087.toNat < v1083.length) then
            match v1083[x1087.toNat]? with
            | some x1088 =>
              let x1089 := IntKind.i64.wrap (x1088 - v1079)
              let x1090 := IntKind.i64.wrap (v1078 * x1086)
              let x1091 := IntKind.i64.wrap (x1089 - x1090)
              impl_natDiv_J34 N v1074 v1075 v1076 v1077 v1078 (0 : Int) v1082 x1091 v1080 v1081 v1082 v1083 v1084
                (fun x1112 x1113 x1114 x1115 x1116 x1117 x1118 x1119 x1120 x1121 x1122 x1123 x1124 =>
                  let x1125 := IntKind.i64.wrap (x1115 + x1118)
                  bif (decide (x1125 < (0 : Int))) then
                    none
                  else
                    bif decide (x1125.toNat < x1123.length) then
                      match x1123[x1125.toNat]? with
                      | some x1126 =>
                        let x1127 := x1123.set x1125.toNat x1119
                        let x1128 := (IntKind.i64.wrap (x1122 + (1 : Int)))
                        next x1112 x1113 x1114 x1115 x1116 x1117 x1120 x1121 x1128 x1127 x1124
                      | none => none
                    else
                      none)
            | none => none
          else
            none
      | none => none
  else
    k0 v1074 v1075 v1076 v1077 v1078 v1079 v1083 v1084
noncomputable def impl_natDiv_L8.b {α : Type} (N n : Nat) (v1074 : Int) (v1075 : List Int) (v1076 : Int) (v1077 : Int) (v1078 : Int) (v1079 : Int) (v1080 : List Int) (v1081 : Int) (v1082 : Int) (v1083 : List Int) (v1084 : List Int) (k0 : Int → List Int → Int → Int → Int → Int → List Int → List Int → Option α) : Option α :=
  Nat.rec (motive := fun _ => Int → List Int → Int → Int → Int → Int → List Int → Int → Int → List Int → List Int → Option α) (fun _ _ _ _ _ _ _ _ _ _ _ => none) (fun _ next => impl_natDiv_L8r N next k0) n v1074 v1075 v1076 v1077 v1078 v1079 v1080 v1081 v1082 v1083 v1084
theorem impl_natDiv_L8.ex : ∃ f : ((α : Type) → Nat → Nat → Int → List Int → Int → Int → Int → Int → List Int → Int → Int → List Int → List Int → (Int → List Int → Int → Int → Int → Int → List Int → List Int → Option α) → Option α), f = fun α => @impl_natDiv_L8.b α := ⟨_, rfl⟩
noncomputable def impl_natDiv_L8 {α : Type} : Nat → Nat → Int → List Int → Int → Int → Int → Int → List Int → Int → Int → List Int → List Int → (Int → List Int → Int → Int → Int → Int → List Int → List Int → Option α) → Option α := Classical.choose impl_natDiv_L8.ex α
theorem impl_natDiv_L8.eq : @impl_natDiv_L8 = @impl_natDiv_L8.b := funext fun α => congrFun (Classical.choose_spec impl_natDiv_L8.ex) α
theorem impl_natDiv_L8.zero {α : Type} (N : Nat) (v1074 : Int) (v1075 : List Int) (v1076 : Int) (v1077 : Int) (v1078 : Int) (v1079 : Int) (v1080 : List Int) (v1081 : Int) (v1082 : Int) (v1083 : List Int) (v1084 : List Int) (k0 : Int → List Int → Int → Int → Int → Int → List Int → List Int → Option α) : impl_natDiv_L8 N 0 v1074 v1075 v1076 v1077 v1078 v1079 v1080 v1081 v1082 v1083 v1084 k0 = none := by rw [impl_natDiv_L8.eq]; rfl
theorem impl_natDiv_L8.succ {α : Type} (N n : Nat) (v1074 : Int) (v1075 : List Int) (v1076 : Int) (v1077 : Int) (v1078 : Int) (v1079 : Int) (v1080 : List Int) (v1081 : Int) (v1082 : Int) (v1083 : List Int) (v1084 : List Int) (k0 : Int → List Int → Int → Int → Int → Int → List Int → List Int → Option α) : impl_natDiv_L8 N (n + 1) v1074 v1075 v1076 v1077 v1078 v1079 v1080 v1081 v1082 v1083 v1084 k0 = impl_natDiv_L8r N (fun y0 y1 y2 y3 y4 y5 y6 y7 y8 y9 y10 => impl_natDiv_L8 N n y0 y1 y2 y3 y4 y5 y6 y7 y8 y9 y10 k0) k0 v1074 v1075 v1076 v1077 v1078 v1079 v1080 v1081 v1082 v1083 v1084 := by rw [impl_natDiv_L8.eq]; rfl
noncomputable def impl_natDiv_L10r {α : Type} (N : Nat) (next : Int → List Int → Int → Int → Int → Int → List Int → Int → Int → List Int → List Int → Option α) (k0 : Int → List Int → Int → Int → Int → Int → List Int → List Int → Option α) (v1154 : Int) (v1155 : List Int) (v1156 : Int) (v1157 : Int) (v1158 : Int) (v1159 : Int) (v1160 : List Int) (v1161 : Int) (v1162 : Int) (v1163 : List Int) (v1164 : List Int) : Option α :=
  let x1165 := decide (v1162 < v1161)
  bif x1165 then
    bif (decide (v1162 < (0 : Int))) then
      none
    else
      match v1160[v1162.toNat]? with
      | some x1166 =>
        let x1167 := IntKind.i64.wrap (v1157 + v1162)
        bif (decide (x1167 < (0 : Int))) then
          none
        else
          bif decide (x1167.toNat < v1163.length) then
            match v1163[x1167.toNat]? with
            | some x1168 =>
              let x1169 := IntKind.i64.wrap (x1168 + x1166)
              let x1170 := IntKind.i64.wrap (x1169 + v1159)
              let x1171 := IntKind.i64.wrap (v1157 + v1162)
              let x1172 := (bitI .and .i64 x1170 (65535 : Int))
              let x1173 := (shrI .i64 x1170 (16 : Int))
              bif (decide (x1171 < (0 : Int))) then
                none
              else
                bif decide (x1171.toNat < v1163.length) then
                  match v1163[x1171.toNat]? with
                  | some x1174 =>
                    let x1175 := v1163.set x1171.toNat x1172
                    let x1176 := (IntKind.i64.wrap (v1162 + (1 : Int)))
                    next v1154 v1155 v1156 v1157 v1158 x1173 v1160 v1161 x1176 x1175 v1164
                  | none => none
                else
                  none
            | none => none
          else
            none
      | none => none
  else
    k0 v1154 v1155 v1156 v1157 v1158 v1159 v1163 v1164
noncomputable def impl_natDiv_L10.b {α : Type} (N n : Nat) (v1154 : Int) (v1155 : List Int) (v1156 : Int) (v1157 : Int) (v1158 : Int) (v1159 : Int) (v1160 : List Int) (v1161 : Int) (v1162 : Int) (v1163 : List Int) (v1164 : List Int) (k0 : Int → List Int → Int → Int → Int → Int → List Int → List Int → Option α) : Option α :=
  Nat.rec (motive := fun _ => Int → List Int → Int → Int → Int → Int → List Int → Int → Int → List Int → List Int → Option α) (fun _ _ _ _ _ _ _ _ _ _ _ => none) (fun _ next => impl_natDiv_L10r N next k0) n v1154 v1155 v1156 v1157 v1158 v1159 v1160 v1161 v1162 v1163 v1164
theorem impl_natDiv_L10.ex : ∃ f : ((α : Type) → Nat → Nat → Int → List Int → Int → Int → Int → Int → List Int → Int → Int → List Int → List Int → (Int → List Int → Int → Int → Int → Int → List Int → List Int → Option α) → Option α), f = fun α => @impl_natDiv_L10.b α := ⟨_, rfl⟩
noncomputable def impl_natDiv_L10 {α : Type} : Nat → Nat → Int → List Int → Int → Int → Int → Int → List Int → Int → Int → List Int → List Int → (Int → List Int → Int → Int → Int → Int → List Int → List Int → Option α) → Option α := Classical.choose impl_natDiv_L10.ex α
theorem impl_natDiv_L10.eq : @impl_natDiv_L10 = @impl_natDiv_L10.b := funext fun α => congrFun (Classical.choose_spec impl_natDiv_L10.ex) α
theorem impl_natDiv_L10.zero {α : Type} (N : Nat) (v1154 : Int) (v1155 : List Int) (v1156 : Int) (v1157 : Int) (v1158 : Int) (v1159 : Int) (v1160 : List Int) (v1161 : Int) (v1162 : Int) (v1163 : List Int) (v1164 : List Int) (k0 : Int → List Int → Int → Int → Int → Int → List Int → List Int → Option α) : impl_natDiv_L10 N 0 v1154 v1155 v1156 v1157 v1158 v1159 v1160 v1161 v1162 v1163 v1164 k0 = none := by rw [impl_natDiv_L10.eq]; rfl
theorem impl_natDiv_L10.succ {α : Type} (N n : Nat) (v1154 : Int) (v1155 : List Int) (v1156 : Int) (v1157 : Int) (v1158 : Int) (v1159 : Int) (v1160 : List Int) (v1161 : Int) (v1162 : Int) (v1163 : List Int) (v1164 : List Int) (k0 : Int → List Int → Int → Int → Int → Int → List Int → List Int → Option α) : impl_natDiv_L10 N (n + 1) v1154 v1155 v1156 v1157 v1158 v1159 v1160 v1161 v1162 v1163 v1164 k0 = impl_natDiv_L10r N (fun y0 y1 y2 y3 y4 y5 y6 y7 y8 y9 y10 => impl_natDiv_L10 N n y0 y1 y2 y3 y4 y5 y6 y7 y8 y9 y10 k0) k0 v1154 v1155 v1156 v1157 v1158 v1159 v1160 v1161 v1162 v1163 v1164 := by rw [impl_natDiv_L10.eq]; rfl
noncomputable def impl_natDiv_J40.b {α : Type} (N : Nat) (v1142 : Int) (v1143 : List Int) (v1144 : Int) (v1145 : Int) (v1146 : Int) (v1147 : List Int) (v1148 : List Int) (k0 : Int → List Int → Int → Int → Int → List Int → List Int → Option α) : Option α :=
  let x1149 := IntKind.i64.wrap (v1145 + v1144)
  bif (decide (x1149 < (0 : Int))) then
    none
  else
    bif decide (x1149.toNat < v1147.length) then
      match v1147[x1149.toNat]? with
      | some x1150 =>
        let x1151 := (decide (x1150 < (0 : Int)))
        bif x1151 then
          let x1152 := (IntKind.i64.wrap (v1146 - (1 : Int)))
          let x1153 := ((v1143.length : Nat) : Int)
          impl_natDiv_L10 N N v1142 v1143 v1144 v1145 x1152 (0 : Int) v1143 x1153 (0 : Int) v1147 v1148
            (fun x1177 x1178 x1179 x1180 x1181 x1182 x1183 x1184 =>
              let x1185 := IntKind.i64.wrap (x1180 + x1179)
              bif (decide (x1185 < (0 : Int))) then
                none
              else
                bif decide (x1185.toNat < x1183.length) then
                  match x1183[x1185.toNat]? with
                  | some x1186 =>
                    let x1187 := IntKind.i64.wrap (x1186 + x1182)
                    bif (decide (x1185 < (0 : Int))) then
                      none
                    else
                      bif decide (x1185.toNat < x1183.length) then
                        match x1183[x1185.toNat]? with
                        | some x1188 =>
                          let x1189 := x1183.set x1185.toNat x1187
                          k0 x1177 x1178 x1179 x1180 x1181 x1189 x1184
                        | none => none
                      else
                        none
                  | none => none
                else
                  none)
        else
          k0 v1142 v1143 v1144 v1145 v1146 v1147 v1148
      | none => none
    else
      none
theorem impl_natDiv_J40.ex : ∃ f : ((α : Type) → Nat → Int → List Int → Int → Int → Int → List Int → List Int → (Int → List Int → Int → Int → Int → List Int → List Int → Option α) → Option α), f = fun α => @impl_natDiv_J40.b α := ⟨_, rfl⟩
noncomputable def impl_natDiv_J40 {α : Type} : Nat → Int → List Int → Int → Int → Int → List Int → List Int → (Int → List Int → Int → Int → Int → List Int → List Int → Option α) → Option α := Classical.choose impl_natDiv_J40.ex α
theorem impl_natDiv_J40.eq : @impl_natDiv_J40 = @impl_natDiv_J40.b := funext fun α => congrFun (Classical.choose_spec impl_natDiv_J40.ex) α
noncomputable def impl_natDiv_L4r {α : Type} (N : Nat) (next : Int → List Int → Int → Int → List Int → List Int → Option α) (k0 : Int → List Int → List Int → Option α) (v1018 : Int) (v1019 : List Int) (v1020 : Int) (v1021 : Int) (v1022 : List Int) (v1023 : List Int) : Option α :=
  let x1024 := (decide ((0 : Int) ≤ v1021))
  bif x1024 then
    let x1025 := IntKind.i64.wrap (v1021 + v1020)
    bif (decide (x1025 < (0 : Int))) then
      none
    else
      bif decide (x1025.toNat < v1022.length) then
        match v1022[x1025.toNat]? with
        | some x1026 =>
          let x1027 := (shlI .i64 x1026 (16 : Int))
          let x1028 := IntKind.i64.wrap (v1021 + v1020)
          let x1029 := (IntKind.i64.wrap (x1028 - (1 : Int)))
          bif (decide (x1029 < (0 : Int))) then
            none
          else
            bif decide (x1029.toNat < v1022.length) then
              match v1022[x1029.toNat]? with
              | some x1030 =>
                let x1031 := bitI .or .i64 x1027 x1030
                let x1032 := (IntKind.i64.wrap (v1020 - (1 : Int)))
                bif (decide (x1032 < (0 : Int))) then
                  none
                else
                  match v1019[x1032.toNat]? with
                  | some x1033 =>
                    bif (decide (x1033 = (0 : Int))) then
                      none
                    else
                      let x1034 := IntKind.i64.wrap (Int.tdiv x1031 x1033)
                      let x1035 := (IntKind.i64.wrap (v1020 - (1 : Int)))
                      bif (decide (x1035 < (0 : Int))) then
                        none
                      else
                        match v1019[x1035.toNat]? with
                        | some x1036 =>
                          bif (decide (x1036 = (0 : Int))) then
                            none
                          else
                            let x1037 := Int.tmod x1031 x1036
                            impl_natDiv_L6 N N v1018 v1019 v1020 v1021 x1034 x1037 v1022 v1023
                              (fun x1066 x1067 x1068 x1069 x1070 x1071 x1072 =>
                                let x1073 := ((x1067.length : Nat) : Int)
                                impl_natDiv_L8 N N x1066 x1067 x1068 x1069 x1070 (0 : Int) x1067 x1073 (0 : Int) x1071 x1072
                                  (fun x1129 x1130 x1131 x1132 x1133 x1134 x1135 x1136 =>
                                    let x1137 := IntKind.i64.wrap (x1132 + x1131)
                                    bif (decide (x1137 < (0 : Int))) then
                                      none
                                    else
                                      bif decide (x1137.toNat < x1135.length) then
                                        match x1135[x1137.toNat]? with
                                        | some x1138 =>
                                          let x1139 := IntKind.i64.wrap (x1138 - x1134)
                                          bif (decide (x1137 < (0 : Int))) then
                                            none
                                          else
                                            bif decide (x1137.toNat < x1135.length) then
                                              match x1135[x1137.toNat]? with
                                              | some x1140 =>
                                                let x1141 := x1135.set x1137.toNat x1139
                                                impl_natDiv_J40 N x1129 x1130 x1131 x1132 x1133 x1141 x1136
                                                  (fun x1190 x1191 x1192 x1193 x1194 x1195 x1196 =>
                                                    bif (decide (x1193 < (0 : Int))) then
                                                      none
                                                    else
                                                      bif decide (x1193.toNat < x1196.length) then
                                                        match x1196[x1193.toNat]? with
                                                        | some x1197 =>
                                                          let x1198 := x1196.set x1193.toNat x1194
                                                          let x1199 := (IntKind.i64.wrap (x1193 - (1 : Int)))
                                                          next x1190 x1191 x1192 x1199 x1195 x1198
                                                        | none => none
                                                      else
                                                        none)
                                              | none => none
                                            else
                                              none
                                        | none => none
                                      else
                                        none))
                        | none => none
                  | none => none
              | none => none
            else
              none
        | none => none
      else
        none
  else
    k0 v1018 v1022 v1023
noncomputable def impl_natDiv_L4.b {α : Type} (N n : Nat) (v1018 : Int) (v1019 : List Int) (v1020 : Int) (v1021 : Int) (v1022 : List Int) (v1023 : List Int) (k0 : Int → List Int → List Int → Option α) : Option α :=
  Nat.rec (motive := fun _ => Int → List Int → Int → Int → List Int → List Int → Option α) (fun _ _ _ _ _ _ => none) (fun _ next => impl_natDiv_L4r N next k0) n v1018 v1019 v1020 v1021 v1022 v1023
theorem impl_natDiv_L4.ex : ∃ f : ((α : Type) → Nat → Nat → Int → List Int → Int → Int → List Int → List Int → (Int → List Int → List Int → Option α) → Option α), f = fun α => @impl_natDiv_L4.b α := ⟨_, rfl⟩
noncomputable def impl_natDiv_L4 {α : Type} : Nat → Nat → Int → List Int → Int → Int → List Int → List Int → (Int → List Int → List Int → Option α) → Option α := Classical.choose impl_natDiv_L4.ex α
theorem impl_natDiv_L4.eq : @impl_natDiv_L4 = @impl_natDiv_L4.b := funext fun α => congrFun (Classical.choose_spec impl_natDiv_L4.ex) α
theorem impl_natDiv_L4.zero {α : Type} (N : Nat) (v1018 : Int) (v1019 : List Int) (v1020 : Int) (v1021 : Int) (v1022 : List Int) (v1023 : List Int) (k0 : Int → List Int → List Int → Option α) : impl_natDiv_L4 N 0 v1018 v1019 v1020 v1021 v1022 v1023 k0 = none := by rw [impl_natDiv_L4.eq]; rfl
theorem impl_natDiv_L4.succ {α : Type} (N n : Nat) (v1018 : Int) (v1019 : List Int) (v1020 : Int) (v1021 : Int) (v1022 : List Int) (v1023 : List Int) (k0 : Int → List Int → List Int → Option α) : impl_natDiv_L4 N (n + 1) v1018 v1019 v1020 v1021 v1022 v1023 k0 = impl_natDiv_L4r N (fun y0 y1 y2 y3 y4 y5 => impl_natDiv_L4 N n y0 y1 y2 y3 y4 y5 k0) k0 v1018 v1019 v1020 v1021 v1022 v1023 := by rw [impl_natDiv_L4.eq]; rfl
/-- loop.example/pinfold/impl.natDiv -/
noncomputable def impl_natDiv.b {α : Type} (N : Nat) (a751 : List Int) (a752 : List Int) (k0 : List Int → List Int → Option α) : Option α :=
  impl_natCmp N a751 a752
    (fun x779 =>
      let x780 := (decide (x779 < (0 : Int)))
      bif x780 then
        k0 [] a751
      else
        let x781 := ((a752.length : Nat) : Int)
        let x782 := (decide (x781 = (1 : Int)))
        bif x782 then
          let x783 := ((a751.length : Nat) : Int)
          bif (decide ((0 : Int) ≤ x783)) then
            bif decide (x783 ≤ x783) then
              bif (decide (x783 ≤ ((8796093022208 : Nat) : Int))) then
                let x784 := (List.replicate x783.toNat (0 : Int))
                let x785 := ((a751.length : Nat) : Int)
                let x786 := (IntKind.i64.wrap (x785 - (1 : Int)))
                impl_natDiv_L0 N N a751 a752 (0 : Int) x786 x784
                  (fun x803 x804 =>
                    impl_trim N x804
                      (fun x817 =>
                        let x818 := [x803]
                        impl_trim N x818
                          (fun x819 =>
                            k0 x817 x819)))
              else
                none
            else
              none
          else
            none
        else
          let x820 := ((a752.length : Nat) : Int)
          let x821 := (IntKind.i64.wrap (x820 - (1 : Int)))
          bif (decide (x821 < (0 : Int))) then
            none
          else
            match a752[x821.toNat]? with
            | some x822 =>
              let x823 := IntKind.u64.wrap x822
              math_bits_Len N x823
                (fun x852 =>
                  let x853 := (IntKind.i64.wrap ((16 : Int) - x852))
                  impl_natShift N a752 x853
                    (fun x991 =>
                      impl_natShift N a751 x853
                        (fun x992 =>
                          slices_Clone_int_int N x992
                            (fun x993 =>
                              let x994 := [(0 : Int)]
                              bif decide (x993.length + x994.length ≤ 8796093022208) then
                                let x995 := x993 ++ x994
                                let x996 := ((x991.length : Nat) : Int)
                                impl_natDiv_L2 N N a751 x853 x991 x996 x995
                                  (fun x1008 x1009 x1010 x1011 =>
                                    let x1012 := ((x1011.length : Nat) : Int)
                                    let x1013 := IntKind.i64.wrap (x1012 - x1010)
                                    bif (decide ((0 : Int) ≤ x1013)) then
                                      bif decide (x1013 ≤ x1013) then
                                        bif (decide (x1013 ≤ ((8796093022208 : Nat) : Int))) then
                                          let x1014 := (List.replicate x1013.toNat (0 : Int))
                                          let x1015 := ((x1011.length : Nat) : Int)
                                          let x1016 := IntKind.i64.wrap (x1015 - x1010)
                                          let x1017 := (IntKind.i64.wrap (x1016 - (1 : Int)))
                                          impl_natDiv_L4 N N x1008 x1009 x1010 x1017 x1011 x1014
                                            (fun x1200 x1201 x1202 =>
                                              impl_trim N x1202
                                                (fun x1203 =>
                                                  impl_trim N x1201
                                                    (fun x1204 =>
                                                      let x1205 := IntKind.i64.wrap (0 - x1200)
                                                      impl_natShift N x1204 x1205
                                                        (fun x1206 =>
                                                          k0 x1203 x1206))))
                                        else
                                          none
                                      else
                                        none
                                    else
                                      none)
                              else
                                none))))
            | none => none)
theorem impl_natDiv.ex : ∃ f : ((α : Type) → Nat → List Int → List Int → (List Int → List Int → Option α) → Option α), f = fun α => @impl_natDiv.b α := ⟨_, rfl⟩
noncomputable def impl_natDiv {α : Type} : Nat → List Int → List Int → (List Int → List Int → Option α) → Option α := Classical.choose impl_natDiv.ex α
theorem impl_natDiv.eq : @impl_natDiv = @impl_natDiv.b := funext fun α => congrFun (Classical.choose_spec impl_natDiv.ex) α

noncomputable def impl_natGcd_L0r {α : Type} (N : Nat) (next : List Int → List Int → Option α) (k0 : List Int → Option α) (v678 : List Int) (v679 : List Int) : Option α :=
  let x680 := ((v679.length : Nat) : Int)
  let x681 := (decide ((0 : Int) < x680))
  bif x681 then
    impl_natDiv N v678 v679
      (fun _ x1208 =>
        next v679 x1208)
  else
    k0 v678
noncomputable def impl_natGcd_L0.b {α : Type} (N n : Nat) (v678 : List Int) (v679 : List Int) (k0 : List Int → Option α) : Option α :=
  Nat.rec (motive := fun _ => List Int → List Int → Option α) (fun _ _ => none) (fun _ next => impl_natGcd_L0r N next k0) n v678 v679
theorem impl_natGcd_L0.ex : ∃ f : ((α : Type) → Nat → Nat → List Int → List Int → (List Int → Option α) → Option α), f = fun α => @impl_natGcd_L0.b α := ⟨_, rfl⟩
noncomputable def impl_natGcd_L0 {α : Type} : Nat → Nat → List Int → List Int → (List Int → Option α) → Option α := Classical.choose impl_natGcd_L0.ex α
theorem impl_natGcd_L0.eq : @impl_natGcd_L0 = @impl_natGcd_L0.b := funext fun α => congrFun (Classical.choose_spec impl_natGcd_L0.ex) α
theorem impl_natGcd_L0.zero {α : Type} (N : Nat) (v678 : List Int) (v679 : List Int) (k0 : List Int → Option α) : impl_natGcd_L0 N 0 v678 v679 k0 = none := by rw [impl_natGcd_L0.eq]; rfl
theorem impl_natGcd_L0.succ {α : Type} (N n : Nat) (v678 : List Int) (v679 : List Int) (k0 : List Int → Option α) : impl_natGcd_L0 N (n + 1) v678 v679 k0 = impl_natGcd_L0r N (fun y0 y1 => impl_natGcd_L0 N n y0 y1 k0) k0 v678 v679 := by rw [impl_natGcd_L0.eq]; rfl
/-- loop.example/pinfold/impl.natGcd -/
noncomputable def impl_natGcd.b {α : Type} (N : Nat) (a676 : List Int) (a677 : List Int) (k0 : List Int → Option α) : Option α :=
  impl_natGcd_L0 N N a676 a677
    (fun x1209 =>
      k0 x1209)
theorem impl_natGcd.ex : ∃ f : ((α : Type) → Nat → List Int → List Int → (List Int → Option α) → Option α), f = fun α => @impl_natGcd.b α := ⟨_, rfl⟩
noncomputable def impl_natGcd {α : Type} : Nat → List Int → List Int → (List Int → Option α) → Option α := Classical.choose impl_natGcd.ex α
theorem impl_natGcd.eq : @impl_natGcd = @impl_natGcd.b := funext fun α => congrFun (Classical.choose_spec impl_natGcd.ex) α

/-- loop.example/pinfold/impl.FracOk -/
noncomputable def impl_FracOk.b {α : Type} (N : Nat) (a621 : Bool × (List Int) × (List Int) × Unit) (k0 : Bool → Option α) : Option α :=
  let x622 := [a621.2.1, a621.2.2.1]
  impl_nats N x622
    (fun x671 =>
      bif x671 then
        let x672 := ((a621.2.2.1.length : Nat) : Int)
        let x673 := (decide ((0 : Int) < x672))
        bif x673 then
          let x674 := ((a621.2.1.length : Nat) : Int)
          let x675 := (decide ((0 : Int) < x674))
          bif x675 then
            impl_natGcd N a621.2.1 a621.2.2.1
              (fun x1210 =>
                let x1211 := [(1 : Int)]
                impl_natCmp N x1210 x1211
                  (fun x1212 =>
                    let x1213 := (decide (x1212 = (0 : Int)))
                    k0 x1213))
          else
            let x1214 := !a621.1
            bif x1214 then
              impl_natGcd N a621.2.1 a621.2.2.1
                (fun x1215 =>
                  let x1216 := [(1 : Int)]
                  impl_natCmp N x1215 x1216
                    (fun x1217 =>
                      let x1218 := (decide (x1217 = (0 : Int)))
                      k0 x1218))
            else
              k0 false
        else
          k0 false
      else
        k0 false)
theorem impl_FracOk.ex : ∃ f : ((α : Type) → Nat → (Bool × (List Int) × (List Int) × Unit) → (Bool → Option α) → Option α), f = fun α => @impl_FracOk.b α := ⟨_, rfl⟩
noncomputable def impl_FracOk {α : Type} : Nat → (Bool × (List Int) × (List Int) × Unit) → (Bool → Option α) → Option α := Classical.choose impl_FracOk.ex α
theorem impl_FracOk.eq : @impl_FracOk = @impl_FracOk.b := funext fun α => congrFun (Classical.choose_spec impl_FracOk.ex) α

/-- loop.example/pinfold/impl.size -/
noncomputable def impl_size.b {α : Type} (N : Nat) (a1313 : Int) (k0 : Int → Option α) : Option α :=
  let x1314 := IntKind.i64.wrap (0 - a1313)
  let x1315 := maxI a1313 x1314
  k0 x1315
theorem impl_size.ex : ∃ f : ((α : Type) → Nat → Int → (Int → Option α) → Option α), f = fun α => @impl_size.b α := ⟨_, rfl⟩
noncomputable def impl_size {α : Type} : Nat → Int → (Int → Option α) → Option α := Classical.choose impl_size.ex α
theorem impl_size.eq : @impl_size = @impl_size.b := funext fun α => congrFun (Classical.choose_spec impl_size.ex) α

/-- loop.example/pinfold/impl.BitPartOf -/
noncomputable def impl_BitPartOf.b {α : Type} (N : Nat) (a1307 : Int) (a1308 : Int) (k0 : (Bool × Int × Int × Unit) → Bool → Option α) : Option α :=
  impl_formatOf N a1307
    (fun x1309 _ =>
      impl_BitOk N a1307 a1308
        (fun x1311 =>
          let x1312 := !x1311
          bif x1312 then
            k0 (false, ((0 : Int), ((0 : Int), ()))) false
          else
            impl_size N a1308
              (fun x1316 =>
                let x1317 := decide (x1316 = x1309.2.2.2.1)
                bif x1317 then
                  k0 (false, ((0 : Int), ((0 : Int), ()))) false
                else
                  impl_size N a1308
                    (fun x1318 =>
                      bif (decide (x1309.1 < (0 : Int))) then
                        none
                      else
                        let x1319 := (shlI .i64 (1 : Int) x1309.1)
                        let x1320 := (IntKind.i64.wrap (x1319 - (1 : Int)))
                        let x1321 := bitI .and .i64 x1318 x1320
                        impl_size N a1308
                          (fun x1322 =>
                            bif (decide (x1309.1 < (0 : Int))) then
                              none
                            else
                              let x1323 := shrI .i64 x1322 x1309.1
                              let x1324 := (decide (x1323 = (0 : Int)))
                              bif x1324 then
                                let x1325 := (decide (a1308 < (0 : Int)))
                                let x1326 := IntKind.u64.wrap x1321
                                k0 (x1325, (x1326, (x1309.2.1, ()))) true
                              else
                                let x1327 := (decide (a1308 < (0 : Int)))
                                bif (decide (x1309.1 < (0 : Int))) then
                                  none
                                else
                                  let x1328 := (shlI .i64 (1 : Int) x1309.1)
                                  let x1329 := bitI .or .i64 x1321 x1328
                                  let x1330 := IntKind.u64.wrap x1329
                                  let x1331 := IntKind.i64.wrap (x1309.2.1 + x1323)
                                  let x1332 := (IntKind.i64.wrap (x1331 - (1 : Int)))
                                  k0 (x1327, (x1330, (x1332, ()))) true)))))
theorem impl_BitPartOf.ex : ∃ f : ((α : Type) → Nat → Int → Int → ((Bool × Int × Int × Unit) → Bool → Option α) → Option α), f = fun α => @impl_BitPartOf.b α := ⟨_, rfl⟩
noncomputable def impl_BitPartOf {α : Type} : Nat → Int → Int → ((Bool × Int × Int × Unit) → Bool → Option α) → Option α := Classical.choose impl_BitPartOf.ex α
theorem impl_BitPartOf.eq : @impl_BitPartOf = @impl_BitPartOf.b := funext fun α => congrFun (Classical.choose_spec impl_BitPartOf.ex) α

noncomputable def impl_natOf_L0r {α : Type} (N : Nat) (next : Int → List Int → Option α) (k0 : List Int → Option α) (v1336 : Int) (v1337 : List Int) : Option α :=
  let x1338 := (decide ((0 : Int) < v1336))
  bif x1338 then
    let x1339 := (bitI .and .u64 v1336 (65535 : Int))
    let x1340 := IntKind.i64.wrap x1339
    let x1341 := [x1340]
    bif decide (v1337.length + x1341.length ≤ 8796093022208) then
      let x1342 := v1337 ++ x1341
      let x1343 := (shrI .u64 v1336 (16 : Int))
      next x1343 x1342
    else
      none
  else
    k0 v1337
noncomputable def impl_natOf_L0.b {α : Type} (N n : Nat) (v1336 : Int) (v1337 : List Int) (k0 : List Int → Option α) : Option α :=
  Nat.rec (motive := fun _ => Int → List Int → Option α) (fun _ _ => none) (fun _ next => impl_natOf_L0r N next k0) n v1336 v1337
theorem impl_natOf_L0.ex : ∃ f : ((α : Type) → Nat → Nat → Int → List Int → (List Int → Option α) → Option α), f = fun α => @impl_natOf_L0.b α := ⟨_, rfl⟩
noncomputable def impl_natOf_L0 {α : Type} : Nat → Nat → Int → List Int → (List Int → Option α) → Option α := Classical.choose impl_natOf_L0.ex α
theorem impl_natOf_L0.eq : @impl_natOf_L0 = @impl_natOf_L0.b := funext fun α => congrFun (Classical.choose_spec impl_natOf_L0.ex) α
theorem impl_natOf_L0.zero {α : Type} (N : Nat) (v1336 : Int) (v1337 : List Int) (k0 : List Int → Option α) : impl_natOf_L0 N 0 v1336 v1337 k0 = none := by rw [impl_natOf_L0.eq]; rfl
theorem impl_natOf_L0.succ {α : Type} (N n : Nat) (v1336 : Int) (v1337 : List Int) (k0 : List Int → Option α) : impl_natOf_L0 N (n + 1) v1336 v1337 k0 = impl_natOf_L0r N (fun y0 y1 => impl_natOf_L0 N n y0 y1 k0) k0 v1336 v1337 := by rw [impl_natOf_L0.eq]; rfl
/-- loop.example/pinfold/impl.natOf -/
noncomputable def impl_natOf.b {α : Type} (N : Nat) (a1335 : Int) (k0 : List Int → Option α) : Option α :=
  impl_natOf_L0 N N a1335 []
    (fun x1344 =>
      k0 x1344)
theorem impl_natOf.ex : ∃ f : ((α : Type) → Nat → Int → (List Int → Option α) → Option α), f = fun α => @impl_natOf.b α := ⟨_, rfl⟩
noncomputable def impl_natOf {α : Type} : Nat → Int → (List Int → Option α) → Option α := Classical.choose impl_natOf.ex α
theorem impl_natOf.eq : @impl_natOf = @impl_natOf.b := funext fun α => congrFun (Classical.choose_spec impl_natOf.ex) α

/-- loop.example/pinfold/impl.whole -/
noncomputable def impl_whole.b {α : Type} (N : Nat) (a1348 : Bool) (a1349 : List Int) (k0 : Bool → List Int → List Int → Option α) : Option α :=
  bif a1348 then
    let x1350 := ((a1349.length : Nat) : Int)
    let x1351 := (decide ((0 : Int) < x1350))
    let x1352 := [(1 : Int)]
    k0 x1351 a1349 x1352
  else
    let x1353 := [(1 : Int)]
    k0 false a1349 x1353
theorem impl_whole.ex : ∃ f : ((α : Type) → Nat → Bool → List Int → (Bool → List Int → List Int → Option α) → Option α), f = fun α => @impl_whole.b α := ⟨_, rfl⟩
noncomputable def impl_whole {α : Type} : Nat → Bool → List Int → (Bool → List Int → List Int → Option α) → Option α := Classical.choose impl_whole.ex α
theorem impl_whole.eq : @impl_whole = @impl_whole.b := funext fun α => congrFun (Classical.choose_spec impl_whole.ex) α

noncomputable def impl_lowest_J2.b {α : Type} (N : Nat) (v1364 : Bool) (v1365 : List Int) (v1366 : List Int) (v1367 : List Int) (v1368 : Bool) (v1369 : List Int) (v1370 : List Int) (k0 : Bool → List Int → List Int → Bool → List Int → List Int → Option α) : Option α :=
  let x1371 := [(1 : Int)]
  impl_natCmp N v1367 x1371
    (fun x1372 =>
      let x1373 := (!(decide (x1372 = (0 : Int))))
      bif x1373 then
        impl_natDiv N v1365 v1367
          (fun x1374 _ =>
            impl_natDiv N v1366 v1367
              (fun x1376 _ =>
                k0 v1364 x1374 x1376 v1368 v1369 v1370))
      else
        k0 v1364 v1365 v1366 v1368 v1369 v1370)
theorem impl_lowest_J2.ex : ∃ f : ((α : Type) → Nat → Bool → List Int → List Int → List Int → Bool → List Int → List Int → (Bool → List Int → List Int → Bool → List Int → List Int → Option α) → Option α), f = fun α => @impl_lowest_J2.b α := ⟨_, rfl⟩
noncomputable def impl_lowest_J2 {α : Type} : Nat → Bool → List Int → List Int → List Int → Bool → List Int → List Int → (Bool → List Int → List Int → Bool → List Int → List Int → Option α) → Option α := Classical.choose impl_lowest_J2.ex α
theorem impl_lowest_J2.eq : @impl_lowest_J2 = @impl_lowest_J2.b := funext fun α => congrFun (Classical.choose_spec impl_lowest_J2.ex) α
/-- loop.example/pinfold/impl.lowest -/
noncomputable def impl_lowest.b {α : Type} (N : Nat) (a1360 : Bool) (a1361 : List Int) (a1362 : List Int) (k0 : (Bool × (List Int) × (List Int) × Unit) → Option α) : Option α :=
  impl_natGcd N a1361 a1362
    (fun x1363 =>
      impl_lowest_J2 N a1360 a1361 a1362 x1363 false [] []
        (fun x1378 x1379 x1380 _ _ _ =>
          bif x1378 then
            let x1384 := ((x1379.length : Nat) : Int)
            let x1385 := (decide ((0 : Int) < x1384))
            k0 (x1385, (x1379, (x1380, ())))
          else
            k0 (false, (x1379, (x1380, ())))))
theorem impl_lowest.ex : ∃ f : ((α : Type) → Nat → Bool → List Int → List Int → ((Bool × (List Int) × (List Int) × Unit) → Option α) → Option α), f = fun α => @impl_lowest.b α := ⟨_, rfl⟩
noncomputable def impl_lowest {α : Type} : Nat → Bool → List Int → List Int → ((Bool × (List Int) × (List Int) × Unit) → Option α) → Option α := Classical.choose impl_lowest.ex α
theorem impl_lowest.eq : @impl_lowest = @impl_lowest.b := funext fun α => congrFun (Classical.choose_spec impl_lowest.ex) α

/-- loop.example/pinfold/impl.value -/
noncomputable def impl_value.b {α : Type} (N : Nat) (a1305 : Int) (a1306 : Int) (k0 : (Bool × (List Int) × (List Int) × Unit) → Option α) : Option α :=
  impl_BitPartOf N a1305 a1306
    (fun x1333 _ =>
      impl_natOf N x1333.2.1
        (fun x1345 =>
          let x1346 := (decide ((0 : Int) ≤ x1333.2.2.1))
          bif x1346 then
            impl_natShift N x1345 x1333.2.2.1
              (fun x1347 =>
                impl_whole N x1333.1 x1347
                  (fun x1354 x1355 x1356 =>
                    k0 (x1354, (x1355, (x1356, ())))))
          else
            let x1357 := [(1 : Int)]
            let x1358 := IntKind.i64.wrap (0 - x1333.2.2.1)
            impl_natShift N x1357 x1358
              (fun x1359 =>
                impl_lowest N x1333.1 x1345 x1359
                  (fun x1386 =>
                    k0 x1386))))
theorem impl_value.ex : ∃ f : ((α : Type) → Nat → Int → Int → ((Bool × (List Int) × (List Int) × Unit) → Option α) → Option α), f = fun α => @impl_value.b α := ⟨_, rfl⟩
noncomputable def impl_value {α : Type} : Nat → Int → Int → ((Bool × (List Int) × (List Int) × Unit) → Option α) → Option α := Classical.choose impl_value.ex α
theorem impl_value.eq : @impl_value = @impl_value.b := funext fun α => congrFun (Classical.choose_spec impl_value.ex) α

/-- (loop.example/pinfold/impl.Frac).sign -/
noncomputable def impl_Frac_sign.b {α : Type} (N : Nat) (a1390 : Bool × (List Int) × (List Int) × Unit) (k0 : Int → Option α) : Option α :=
  bif a1390.1 then
    k0 (-1 : Int)
  else
    let x1391 := ((a1390.2.1.length : Nat) : Int)
    let x1392 := (decide (x1391 = (0 : Int)))
    bif x1392 then
      k0 (0 : Int)
    else
      k0 (1 : Int)
theorem impl_Frac_sign.ex : ∃ f : ((α : Type) → Nat → (Bool × (List Int) × (List Int) × Unit) → (Int → Option α) → Option α), f = fun α => @impl_Frac_sign.b α := ⟨_, rfl⟩
noncomputable def impl_Frac_sign {α : Type} : Nat → (Bool × (List Int) × (List Int) × Unit) → (Int → Option α) → Option α := Classical.choose impl_Frac_sign.ex α
theorem impl_Frac_sign.eq : @impl_Frac_sign = @impl_Frac_sign.b := funext fun α => congrFun (Classical.choose_spec impl_Frac_sign.ex) α

noncomputable def impl_natMul_L2r {α : Type} (N : Nat) (next : List Int → Int → Int → Int → List Int → Int → Int → List Int → Int → Int → List Int → Option α) (k0 : List Int → Int → Int → List Int → Int → Int → List Int → Option α) (v1417 : List Int) (v1418 : Int) (v1419 : Int) (v1420 : Int) (v1421 : List Int) (v1422 : Int) (v1423 : Int) (v1424 : List Int) (v1425 : Int) (v1426 : Int) (v1427 : List Int) : Option α :=
  let x1428 := decide (v1426 < v1425)
  bif x1428 then
    bif (decide (v1426 < (0 : Int))) then
      none
    else
      match v1424[v1426.toNat]? with
      | some x1429 =>
        let x1430 := IntKind.i64.wrap (v1418 + v1426)
        bif (decide (x1430 < (0 : Int))) then
          none
        else
          bif decide (x1430.toNat < v1427.length) then
            match v1427[x1430.toNat]? with
            | some x1431 =>
              let x1432 := IntKind.i64.wrap (v1419 * x1429)
              let x1433 := IntKind.i64.wrap (x1431 + x1432)
              let x1434 := IntKind.i64.wrap (x1433 + v1420)
              let x1435 := IntKind.i64.wrap (v1418 + v1426)
              let x1436 := (bitI .and .i64 x1434 (65535 : Int))
              bif (decide (x1435 < (0 : Int))) then
                none
              else
                bif decide (x1435.toNat < v1427.length) then
                  match v1427[x1435.toNat]? with
                  | some x1437 =>
                    let x1438 := v1427.set x1435.toNat x1436
                    let x1439 := (shrI .i64 x1434 (16 : Int))
                    let x1440 := (IntKind.i64.wrap (v1426 + (1 : Int)))
                    next v1417 v1418 v1419 x1439 v1421 v1422 v1423 v1424 v1425 x1440 x1438
                  | none => none
                else
                  none
            | none => none
          else
            none
      | none => none
  else
    k0 v1417 v1418 v1420 v1421 v1422 v1423 v1427
noncomputable def impl_natMul_L2.b {α : Type} (N n : Nat) (v1417 : List Int) (v1418 : Int) (v1419 : Int) (v1420 : Int) (v1421 : List Int) (v1422 : Int) (v1423 : Int) (v1424 : List Int) (v1425 : Int) (v1426 : Int) (v1427 : List Int) (k0 : List Int → Int → Int → List Int → Int → Int → List Int → Option α) : Option α :=
  Nat.rec (motive := fun _ => List Int → Int → Int → Int → List Int → Int → Int → List Int → Int → Int → List Int → Option α) (fun _ _ _ _ _ _ _ _ _ _ _ => none) (fun _ next => impl_natMul_L2r N next k0) n v1417 v1418 v1419 v1420 v1421 v1422 v1423 v1424 v1425 v1426 v1427
theorem impl_natMul_L2.ex : ∃ f : ((α : Type) → Nat → Nat → List Int → Int → Int → Int → List Int → Int → Int → List Int → Int → Int → List Int → (List Int → Int → Int → List Int → Int → Int → List Int → Option α) → Option α), f = fun α => @impl_natMul_L2.b α := ⟨_, rfl⟩
noncomputable def impl_natMul_L2 {α : Type} : Nat → Nat → List Int → Int → Int → Int → List Int → Int → Int → List Int → Int → Int → List Int → (List Int → Int → Int → List Int → Int → Int → List Int → Option α) → Option α := Classical.choose impl_natMul_L2.ex α
theorem impl_natMul_L2.eq : @impl_natMul_L2 = @impl_natMul_L2.b := funext fun α => congrFun (Classical.choose_spec impl_natMul_L2.ex) α
theorem impl_natMul_L2.zero {α : Type} (N : Nat) (v1417 : List Int) (v1418 : Int) (v1419 : Int) (v1420 : Int) (v1421 : List Int) (v1422 : Int) (v1423 : Int) (v1424 : List Int) (v1425 : Int) (v1426 : Int) (v1427 : List Int) (k0 : List Int → Int → Int → List Int → Int → Int → List Int → Option α) : impl_natMul_L2 N 0 v1417 v1418 v1419 v1420 v1421 v1422 v1423 v1424 v1425 v1426 v1427 k0 = none := by rw [impl_natMul_L2.eq]; rfl
theorem impl_natMul_L2.succ {α : Type} (N n : Nat) (v1417 : List Int) (v1418 : Int) (v1419 : Int) (v1420 : Int) (v1421 : List Int) (v1422 : Int) (v1423 : Int) (v1424 : List Int) (v1425 : Int) (v1426 : Int) (v1427 : List Int) (k0 : List Int → Int → Int → List Int → Int → Int → List Int → Option α) : impl_natMul_L2 N (n + 1) v1417 v1418 v1419 v1420 v1421 v1422 v1423 v1424 v1425 v1426 v1427 k0 = impl_natMul_L2r N (fun y0 y1 y2 y3 y4 y5 y6 y7 y8 y9 y10 => impl_natMul_L2 N n y0 y1 y2 y3 y4 y5 y6 y7 y8 y9 y10 k0) k0 v1417 v1418 v1419 v1420 v1421 v1422 v1423 v1424 v1425 v1426 v1427 := by rw [impl_natMul_L2.eq]; rfl
noncomputable def impl_natMul_L0r {α : Type} (N : Nat) (next : List Int → List Int → Int → Int → List Int → Option α) (k0 : List Int → Option α) (v1409 : List Int) (v1410 : List Int) (v1411 : Int) (v1412 : Int) (v1413 : List Int) : Option α :=
  let x1414 := decide (v1412 < v1411)
  bif x1414 then
    bif (decide (v1412 < (0 : Int))) then
      none
    else
      match v1410[v1412.toNat]? with
      | some x1415 =>
        let x1416 := ((v1409.length : Nat) : Int)
        impl_natMul_L2 N N v1409 v1412 x1415 (0 : Int) v1410 v1411 v1412 v1409 x1416 (0 : Int) v1413
          (fun x1441 x1442 x1443 x1444 x1445 x1446 x1447 =>
            let x1448 := ((x1441.length : Nat) : Int)
            let x1449 := IntKind.i64.wrap (x1442 + x1448)
            bif (decide (x1449 < (0 : Int))) then
              none
            else
              bif decide (x1449.toNat < x1447.length) then
                match x1447[x1449.toNat]? with
                | some x1450 =>
                  let x1451 := IntKind.i64.wrap (x1450 + x1443)
                  bif (decide (x1449 < (0 : Int))) then
                    none
                  else
                    bif decide (x1449.toNat < x1447.length) then
                      match x1447[x1449.toNat]? with
                      | some x1452 =>
                        let x1453 := x1447.set x1449.toNat x1451
                        let x1454 := (IntKind.i64.wrap (x1446 + (1 : Int)))
                        next x1441 x1444 x1445 x1454 x1453
                      | none => none
                    else
                      none
                | none => none
              else
                none)
      | none => none
  else
    k0 v1413
noncomputable def impl_natMul_L0.b {α : Type} (N n : Nat) (v1409 : List Int) (v1410 : List Int) (v1411 : Int) (v1412 : Int) (v1413 : List Int) (k0 : List Int → Option α) : Option α :=
  Nat.rec (motive := fun _ => List Int → List Int → Int → Int → List Int → Option α) (fun _ _ _ _ _ => none) (fun _ next => impl_natMul_L0r N next k0) n v1409 v1410 v1411 v1412 v1413
theorem impl_natMul_L0.ex : ∃ f : ((α : Type) → Nat → Nat → List Int → List Int → Int → Int → List Int → (List Int → Option α) → Option α), f = fun α => @impl_natMul_L0.b α := ⟨_, rfl⟩
noncomputable def impl_natMul_L0 {α : Type} : Nat → Nat → List Int → List Int → Int → Int → List Int → (List Int → Option α) → Option α := Classical.choose impl_natMul_L0.ex α
theorem impl_natMul_L0.eq : @impl_natMul_L0 = @impl_natMul_L0.b := funext fun α => congrFun (Classical.choose_spec impl_natMul_L0.ex) α
theorem impl_natMul_L0.zero {α : Type} (N : Nat) (v1409 : List Int) (v1410 : List Int) (v1411 : Int) (v1412 : Int) (v1413 : List Int) (k0 : List Int → Option α) : impl_natMul_L0 N 0 v1409 v1410 v1411 v1412 v1413 k0 = none := by rw [impl_natMul_L0.eq]; rfl
theorem impl_natMul_L0.succ {α : Type} (N n : Nat) (v1409 : List Int) (v1410 : List Int) (v1411 : Int) (v1412 : Int) (v1413 : List Int) (k0 : List Int → Option α) : impl_natMul_L0 N (n + 1) v1409 v1410 v1411 v1412 v1413 k0 = impl_natMul_L0r N (fun y0 y1 y2 y3 y4 => impl_natMul_L0 N n y0 y1 y2 y3 y4 k0) k0 v1409 v1410 v1411 v1412 v1413 := by rw [impl_natMul_L0.eq]; rfl
/-- loop.example/pinfold/impl.natMul -/
noncomputable def impl_natMul.b {α : Type} (N : Nat) (a1401 : List Int) (a1402 : List Int) (k0 : List Int → Option α) : Option α :=
  let x1403 := ((a1401.length : Nat) : Int)
  let x1404 := ((a1402.length : Nat) : Int)
  let x1405 := IntKind.i64.wrap (x1403 + x1404)
  let x1406 := (IntKind.i64.wrap (x1405 + (1 : Int)))
  bif (decide ((0 : Int) ≤ x1406)) then
    bif decide (x1406 ≤ x1406) then
      bif (decide (x1406 ≤ ((8796093022208 : Nat) : Int))) then
        let x1407 := (List.replicate x1406.toNat (0 : Int))
        let x1408 := ((a1401.length : Nat) : Int)
        impl_natMul_L0 N N a1402 a1401 x1408 (0 : Int) x1407
          (fun x1455 =>
            impl_trim N x1455
              (fun x1456 =>
                k0 x1456))
      else
        none
    else
      none
  else
    none
theorem impl_natMul.ex : ∃ f : ((α : Type) → Nat → List Int → List Int → (List Int → Option α) → Option α), f = fun α => @impl_natMul.b α := ⟨_, rfl⟩
noncomputable def impl_natMul {α : Type} : Nat → List Int → List Int → (List Int → Option α) → Option α := Classical.choose impl_natMul.ex α
theorem impl_natMul.eq : @impl_natMul = @impl_natMul.b := funext fun α => congrFun (Classical.choose_spec impl_natMul.ex) α

/-- (loop.example/pinfold/impl.Frac).cmp -/
noncomputable def impl_Frac_cmp.b {α : Type} (N : Nat) (a1388 : Bool × (List Int) × (List Int) × Unit) (a1389 : Bool × (List Int) × (List Int) × Unit) (k0 : Int → Option α) : Option α :=
  impl_Frac_sign N a1388
    (fun x1393 =>
      impl_Frac_sign N a1389
        (fun x1394 =>
          let x1395 := !(decide (x1393 = x1394))
          bif x1395 then
            impl_Frac_sign N a1388
              (fun x1396 =>
                impl_Frac_sign N a1389
                  (fun x1397 =>
                    let x1398 := IntKind.i64.wrap (x1396 - x1397)
                    let x1399 := (minI (1 : Int) x1398)
                    let x1400 := (maxI (-1 : Int) x1399)
                    k0 x1400))
          else
            impl_natMul N a1388.2.1 a1389.2.2.1
              (fun x1457 =>
                impl_natMul N a1389.2.1 a1388.2.2.1
                  (fun x1458 =>
                    impl_natCmp N x1457 x1458
                      (fun x1459 =>
                        bif a1388.1 then
                          let x1460 := IntKind.i64.wrap (0 - x1459)
                          k0 x1460
                        else
                          k0 x1459)))))
theorem impl_Frac_cmp.ex : ∃ f : ((α : Type) → Nat → (Bool × (List Int) × (List Int) × Unit) → (Bool × (List Int) × (List Int) × Unit) → (Int → Option α) → Option α), f = fun α => @impl_Frac_cmp.b α := ⟨_, rfl⟩
noncomputable def impl_Frac_cmp {α : Type} : Nat → (Bool × (List Int) × (List Int) × Unit) → (Bool × (List Int) × (List Int) × Unit) → (Int → Option α) → Option α := Classical.choose impl_Frac_cmp.ex α
theorem impl_Frac_cmp.eq : @impl_Frac_cmp = @impl_Frac_cmp.b := funext fun α => congrFun (Classical.choose_spec impl_Frac_cmp.ex) α

/-- loop.example/pinfold/impl.PairHas -/
noncomputable def impl_PairHas.b {α : Type} (N : Nat) (a590 : Int) (a591 : Int × Int × Unit) (a592 : Bool × (List Int) × (List Int) × Unit) (k0 : Bool → Option α) : Option α :=
  impl_BitTop N a590
    (fun x599 =>
      impl_PairOk N a590 a591
        (fun x620 =>
          bif x620 then
            impl_FracOk N a592
              (fun x1219 =>
                bif x1219 then
                  let x1220 := IntKind.i64.wrap (0 - x599)
                  let x1221 := decide (a591.1 = x1220)
                  bif x1221 then
                    let x1222 := decide (a591.2.1 = x599)
                    bif x1222 then
                      k0 true
                    else
                      impl_value N a590 a591.2.1
                        (fun x1387 =>
                          impl_Frac_cmp N a592 x1387
                            (fun x1461 =>
                              let x1462 := (decide (x1461 ≤ (0 : Int)))
                              k0 x1462))
                  else
                    impl_value N a590 a591.1
                      (fun x1463 =>
                        impl_Frac_cmp N x1463 a592
                          (fun x1464 =>
                            let x1465 := (decide (x1464 ≤ (0 : Int)))
                            bif x1465 then
                              let x1466 := decide (a591.2.1 = x599)
                              bif x1466 then
                                k0 true
                              else
                                impl_value N a590 a591.2.1
                                  (fun x1467 =>
                                    impl_Frac_cmp N a592 x1467
                                      (fun x1468 =>
                                        let x1469 := (decide (x1468 ≤ (0 : Int)))
                                        k0 x1469))
                            else
                              k0 false))
                else
                  k0 false)
          else
            k0 false))
theorem impl_PairHas.ex : ∃ f : ((α : Type) → Nat → Int → (Int × Int × Unit) → (Bool × (List Int) × (List Int) × Unit) → (Bool → Option α) → Option α), f = fun α => @impl_PairHas.b α := ⟨_, rfl⟩
noncomputable def impl_PairHas {α : Type} : Nat → Int → (Int × Int × Unit) → (Bool × (List Int) × (List Int) × Unit) → (Bool → Option α) → Option α := Classical.choose impl_PairHas.ex α
theorem impl_PairHas.eq : @impl_PairHas = @impl_PairHas.b := funext fun α => congrFun (Classical.choose_spec impl_PairHas.ex) α

/-- loop.example/pinfold/impl.SpanHas -/
noncomputable def impl_SpanHas.b {α : Type} (N : Nat) (a587 : Int) (a588 : Bool × Int × Int × Unit) (a589 : Bool × (List Int) × (List Int) × Unit) (k0 : Bool → Option α) : Option α :=
  bif a588.1 then
    impl_PairHas N a587 (a588.2.1, (a588.2.2.1, ())) a589
      (fun x1470 =>
        k0 x1470)
  else
    k0 false
theorem impl_SpanHas.ex : ∃ f : ((α : Type) → Nat → Int → (Bool × Int × Int × Unit) → (Bool × (List Int) × (List Int) × Unit) → (Bool → Option α) → Option α), f = fun α => @impl_SpanHas.b α := ⟨_, rfl⟩
noncomputable def impl_SpanHas {α : Type} : Nat → Int → (Bool × Int × Int × Unit) → (Bool × (List Int) × (List Int) × Unit) → (Bool → Option α) → Option α := Classical.choose impl_SpanHas.ex α
theorem impl_SpanHas.eq : @impl_SpanHas = @impl_SpanHas.b := funext fun α => congrFun (Classical.choose_spec impl_SpanHas.ex) α

noncomputable def laws_eqIntS_L0r {α : Type} (N : Nat) (next : List Int → List Int → Int → Option α) (k0 : Bool → Option α) (k1 : Option α) (v1484 : List Int) (v1485 : List Int) (v1486 : Int) : Option α :=
  let x1487 := ((v1484.length : Nat) : Int)
  let x1488 := decide (v1486 < x1487)
  bif x1488 then
    bif (decide (v1486 < (0 : Int))) then
      none
    else
      match v1484[v1486.toNat]? with
      | some x1489 =>
        bif (decide (v1486 < (0 : Int))) then
          none
        else
          match v1485[v1486.toNat]? with
          | some x1490 =>
            let x1491 := !(decide (x1489 = x1490))
            bif x1491 then
              k0 false
            else
              let x1492 := (IntKind.i64.wrap (v1486 + (1 : Int)))
              next v1484 v1485 x1492
          | none => none
      | none => none
  else
    k1
noncomputable def laws_eqIntS_L0.b {α : Type} (N n : Nat) (v1484 : List Int) (v1485 : List Int) (v1486 : Int) (k0 : Bool → Option α) (k1 : Option α) : Option α :=
  Nat.rec (motive := fun _ => List Int → List Int → Int → Option α) (fun _ _ _ => none) (fun _ next => laws_eqIntS_L0r N next k0 k1) n v1484 v1485 v1486
theorem laws_eqIntS_L0.ex : ∃ f : ((α : Type) → Nat → Nat → List Int → List Int → Int → (Bool → Option α) → (Option α) → Option α), f = fun α => @laws_eqIntS_L0.b α := ⟨_, rfl⟩
noncomputable def laws_eqIntS_L0 {α : Type} : Nat → Nat → List Int → List Int → Int → (Bool → Option α) → (Option α) → Option α := Classical.choose laws_eqIntS_L0.ex α
theorem laws_eqIntS_L0.eq : @laws_eqIntS_L0 = @laws_eqIntS_L0.b := funext fun α => congrFun (Classical.choose_spec laws_eqIntS_L0.ex) α
theorem laws_eqIntS_L0.zero {α : Type} (N : Nat) (v1484 : List Int) (v1485 : List Int) (v1486 : Int) (k0 : Bool → Option α) (k1 : Option α) : laws_eqIntS_L0 N 0 v1484 v1485 v1486 k0 k1 = none := by rw [laws_eqIntS_L0.eq]; rfl
theorem laws_eqIntS_L0.succ {α : Type} (N n : Nat) (v1484 : List Int) (v1485 : List Int) (v1486 : Int) (k0 : Bool → Option α) (k1 : Option α) : laws_eqIntS_L0 N (n + 1) v1484 v1485 v1486 k0 k1 = laws_eqIntS_L0r N (fun y0 y1 y2 => laws_eqIntS_L0 N n y0 y1 y2 k0 k1) k0 k1 v1484 v1485 v1486 := by rw [laws_eqIntS_L0.eq]; rfl
/-- loop.example/pinfold/laws.eqIntS -/
noncomputable def laws_eqIntS.b {α : Type} (N : Nat) (a1479 : List Int) (a1480 : List Int) (k0 : Bool → Option α) : Option α :=
  let x1481 := ((a1479.length : Nat) : Int)
  let x1482 := ((a1480.length : Nat) : Int)
  let x1483 := !(decide (x1481 = x1482))
  bif x1483 then
    k0 false
  else
    laws_eqIntS_L0 N N a1479 a1480 (0 : Int)
      (fun x1493 =>
        k0 x1493)
      (
        k0 true)
theorem laws_eqIntS.ex : ∃ f : ((α : Type) → Nat → List Int → List Int → (Bool → Option α) → Option α), f = fun α => @laws_eqIntS.b α := ⟨_, rfl⟩
noncomputable def laws_eqIntS {α : Type} : Nat → List Int → List Int → (Bool → Option α) → Option α := Classical.choose laws_eqIntS.ex α
theorem laws_eqIntS.eq : @laws_eqIntS = @laws_eqIntS.b := funext fun α => congrFun (Classical.choose_spec laws_eqIntS.ex) α

/-- loop.example/pinfold/laws.eqFrac -/
noncomputable def laws_eqFrac.b {α : Type} (N : Nat) (a1476 : Bool × (List Int) × (List Int) × Unit) (a1477 : Bool × (List Int) × (List Int) × Unit) (k0 : Bool → Option α) : Option α :=
  let x1478 := !(a1476.1 == a1477.1)
  bif x1478 then
    k0 false
  else
    laws_eqIntS N a1476.2.1 a1477.2.1
      (fun x1494 =>
        let x1495 := !x1494
        bif x1495 then
          k0 false
        else
          laws_eqIntS N a1476.2.2.1 a1477.2.2.1
            (fun x1496 =>
              let x1497 := !x1496
              bif x1497 then
                k0 false
              else
                k0 true))
theorem laws_eqFrac.ex : ∃ f : ((α : Type) → Nat → (Bool × (List Int) × (List Int) × Unit) → (Bool × (List Int) × (List Int) × Unit) → (Bool → Option α) → Option α), f = fun α => @laws_eqFrac.b α := ⟨_, rfl⟩
noncomputable def laws_eqFrac {α : Type} : Nat → (Bool × (List Int) × (List Int) × Unit) → (Bool × (List Int) × (List Int) × Unit) → (Bool → Option α) → Option α := Classical.choose laws_eqFrac.ex α
theorem laws_eqFrac.eq : @laws_eqFrac = @laws_eqFrac.b := funext fun α => congrFun (Classical.choose_spec laws_eqFrac.ex) α

/-- loop.example/pinfold/laws.FnExactSpanHas -/
noncomputable def laws_FnExactSpanHas.b {α : Type} (N : Nat) (a1 : Int) (a2 : Bool × Int × Int × Unit) (a3 : Bool × (List Int) × (List Int) × Unit) (k0 : Bool → Option α) : Option α :=
  laws_szFrac N a3 (1048576 : Int)
    (fun x15 =>
      let x16 := (decide (x15 < (0 : Int)))
      bif x16 then
        k0 true
      else
        laws_toSpan N a2
          (fun x18 =>
            laws_toFrac N a3
              (fun x35 x36 x37 =>
                spec_SpanHas N a1 x18 (x35, (x36, (x37, ())))
                  (fun x582 =>
                    laws_toFrac N a3
                      (fun x583 x584 x585 =>
                        laws_toSpan N a2
                          (fun x586 =>
                            impl_SpanHas N a1 x586 (x583, (x584, (x585, ())))
                              (fun x1471 =>
                                let x1472 := !(x1471 == x582)
                                bif x1472 then
                                  k0 false
                                else
                                  laws_toFrac N a3
                                    (fun x1473 x1474 x1475 =>
                                      laws_eqFrac N (x583, (x584, (x585, ()))) (x1473, (x1474, (x1475, ())))
                                        (fun x1498 =>
                                          let x1499 := !x1498
                                          bif x1499 then
                                            k0 false
                                          else
                                            k0 true)))))))))
theorem laws_FnExactSpanHas.ex : ∃ f : ((α : Type) → Nat → Int → (Bool × Int × Int × Unit) → (Bool × (List Int) × (List Int) × Unit) → (Bool → Option α) → Option α), f = fun α => @laws_FnExactSpanHas.b α := ⟨_, rfl⟩
noncomputable def laws_FnExactSpanHas {α : Type} : Nat → Int → (Bool × Int × Int × Unit) → (Bool × (List Int) × (List Int) × Unit) → (Bool → Option α) → Option α := Classical.choose laws_FnExactSpanHas.ex α
theorem laws_FnExactSpanHas.eq : @laws_FnExactSpanHas = @laws_FnExactSpanHas.b := funext fun α => congrFun (Classical.choose_spec laws_FnExactSpanHas.ex) α

end
end Go.Proofs.YtlbihmicbncdiaaAm
