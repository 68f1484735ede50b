/-
  The functions that the program computes, as the abstract machine tells them. Printed by amp.py.
-/
import Derived.Test.YtlbihmicbncdiaaAmb
namespace Go.Proofs.YtlbihmicbncdiaaAm
open Go
noncomputable section
set_option linter.unusedVariables false
set_option linter.unusedSimpArgs false

/-- loop.example/pinfold/laws.szIntS -/
noncomputable def laws_szIntS.b {α : Type} (N : Nat) (a6 : List Int) (a7 : Int) (k0 : Int → Option α) : Option α :=
  let x8 := ((a6.length : Nat) : Int)
  let x9 := IntKind.i64.wrap (a7 - x8)
  let x10 := (decide (x9 < (0 : Int)))
  bif x10 then
    k0 (-1 : Int)
  else
    k0 x9
theorem laws_szIntS.ex : ∃ f : ((α : Type) → Nat → List Int → Int → (Int → Option α) → Option α), f = fun α => @laws_szIntS.b α := ⟨_, rfl⟩
noncomputable def laws_szIntS {α : Type} : Nat → List Int → Int → (Int → Option α) → Option α := Classical.choose laws_szIntS.ex α
theorem laws_szIntS.eq : @laws_szIntS = @laws_szIntS.b := funext fun α => congrFun (Classical.choose_spec laws_szIntS.ex) α

/-- loop.example/pinfold/laws.szFrac -/
noncomputable def laws_szFrac.b {α : Type} (N : Nat) (a4 : Bool × (List Int) × (List Int) × Unit) (a5 : Int) (k0 : Int → Option α) : Option α :=
  laws_szIntS N a4.2.1 a5
    (fun x11 =>
      let x12 := (decide (x11 < (0 : Int)))
      bif x12 then
        k0 (-1 : Int)
      else
        laws_szIntS N a4.2.2.1 x11
          (fun x13 =>
            let x14 := (decide (x13 < (0 : Int)))
            bif x14 then
              k0 (-1 : Int)
            else
              k0 x13))
theorem laws_szFrac.ex : ∃ f : ((α : Type) → Nat → (Bool × (List Int) × (List Int) × Unit) → Int → (Int → Option α) → Option α), f = fun α => @laws_szFrac.b α := ⟨_, rfl⟩
noncomputable def laws_szFrac {α : Type} : Nat → (Bool × (List Int) × (List Int) × Unit) → Int → (Int → Option α) → Option α := Classical.choose laws_szFrac.ex α
theorem laws_szFrac.eq : @laws_szFrac = @laws_szFrac.b := funext fun α => congrFun (Classical.choose_spec laws_szFrac.ex) α

/-- loop.example/pinfold/laws.toPair -/
noncomputable def laws_toPair.b {α : Type} (N : Nat) (a17 : Int × Int × Unit) (k0 : (Int × Int × Unit) → Option α) : Option α :=
  k0 (a17.1, (a17.2.1, ()))
theorem laws_toPair.ex : ∃ f : ((α : Type) → Nat → (Int × Int × Unit) → ((Int × Int × Unit) → Option α) → Option α), f = fun α => @laws_toPair.b α := ⟨_, rfl⟩
noncomputable def laws_toPair {α : Type} : Nat → (Int × Int × Unit) → ((Int × Int × Unit) → Option α) → Option α := Classical.choose laws_toPair.ex α
theorem laws_toPair.eq : @laws_toPair = @laws_toPair.b := funext fun α => congrFun (Classical.choose_spec laws_toPair.ex) α

noncomputable def laws_toIntS_L0r {α : Type} (N : Nat) (next : List Int → Int → List Int → Option α) (k0 : List Int → Option α) (v23 : List Int) (v24 : Int) (v25 : List Int) : Option α :=
  let x26 := ((v23.length : Nat) : Int)
  let x27 := decide (v24 < x26)
  bif x27 then
    bif (decide (v24 < (0 : Int))) then
      none
    else
      match v23[v24.toNat]? with
      | some x28 =>
        bif (decide (v24 < (0 : Int))) then
          none
        else
          bif decide (v24.toNat < v25.length) then
            match v25[v24.toNat]? with
            | some x29 =>
              let x30 := v25.set v24.toNat x28
              let x31 := (IntKind.i64.wrap (v24 + (1 : Int)))
              next v23 x31 x30
            | none => none
          else
            none
      | none => none
  else
    k0 v25
noncomputable def laws_toIntS_L0.b {α : Type} (N n : Nat) (v23 : List Int) (v24 : Int) (v25 : List Int) (k0 : List Int → Option α) : Option α :=
  Nat.rec (motive := fun _ => List Int → Int → List Int → Option α) (fun _ _ _ => none) (fun _ next => laws_toIntS_L0r N next k0) n v23 v24 v25
theorem laws_toIntS_L0.ex : ∃ f : ((α : Type) → Nat → Nat → List Int → Int → List Int → (List Int → Option α) → Option α), f = fun α => @laws_toIntS_L0.b α := ⟨_, rfl⟩
noncomputable def laws_toIntS_L0 {α : Type} : Nat → Nat → List Int → Int → List Int → (List Int → Option α) → Option α := Classical.choose laws_toIntS_L0.ex α
theorem laws_toIntS_L0.eq : @laws_toIntS_L0 = @laws_toIntS_L0.b := funext fun α => congrFun (Classical.choose_spec laws_toIntS_L0.ex) α
theorem laws_toIntS_L0.zero {α : Type} (N : Nat) (v23 : List Int) (v24 : Int) (v25 : List Int) (k0 : List Int → Option α) : laws_toIntS_L0 N 0 v23 v24 v25 k0 = none := by rw [laws_toIntS_L0.eq]; rfl
theorem laws_toIntS_L0.succ {α : Type} (N n : Nat) (v23 : List Int) (v24 : Int) (v25 : List Int) (k0 : List Int → Option α) : laws_toIntS_L0 N (n + 1) v23 v24 v25 k0 = laws_toIntS_L0r N (fun y0 y1 y2 => laws_toIntS_L0 N n y0 y1 y2 k0) k0 v23 v24 v25 := by rw [laws_toIntS_L0.eq]; rfl
/-- loop.example/pinfold/laws.toIntS -/
noncomputable def laws_toIntS.b {α : Type} (N : Nat) (a20 : List Int) (k0 : List Int → Option α) : Option α :=
  let x21 := ((a20.length : Nat) : Int)
  bif (decide ((0 : Int) ≤ x21)) then
    bif decide (x21 ≤ x21) then
      bif (decide (x21 ≤ ((8796093022208 : Nat) : Int))) then
        let x22 := (List.replicate x21.toNat (0 : Int))
        laws_toIntS_L0 N N a20 (0 : Int) x22
          (fun x32 =>
            k0 x32)
      else
        none
    else
      none
  else
    none
theorem laws_toIntS.ex : ∃ f : ((α : Type) → Nat → List Int → (List Int → Option α) → Option α), f = fun α => @laws_toIntS.b α := ⟨_, rfl⟩
noncomputable def laws_toIntS {α : Type} : Nat → List Int → (List Int → Option α) → Option α := Classical.choose laws_toIntS.ex α
theorem laws_toIntS.eq : @laws_toIntS = @laws_toIntS.b := funext fun α => congrFun (Classical.choose_spec laws_toIntS.ex) α

/-- loop.example/pinfold/laws.toFrac -/
noncomputable def laws_toFrac.b {α : Type} (N : Nat) (a19 : Bool × (List Int) × (List Int) × Unit) (k0 : Bool → List Int → List Int → Option α) : Option α :=
  laws_toIntS N a19.2.1
    (fun x33 =>
      laws_toIntS N a19.2.2.1
        (fun x34 =>
          k0 a19.1 x33 x34))
theorem laws_toFrac.ex : ∃ f : ((α : Type) → Nat → (Bool × (List Int) × (List Int) × Unit) → (Bool → List Int → List Int → Option α) → Option α), f = fun α => @laws_toFrac.b α := ⟨_, rfl⟩
noncomputable def laws_toFrac {α : Type} : Nat → (Bool × (List Int) × (List Int) × Unit) → (Bool → List Int → List Int → Option α) → Option α := Classical.choose laws_toFrac.ex α
theorem laws_toFrac.eq : @laws_toFrac = @laws_toFrac.b := funext fun α => congrFun (Classical.choose_spec laws_toFrac.ex) α

/-- loop.example/pinfold/spec.BitTop -/
noncomputable def spec_BitTop.b {α : Type} (N : Nat) (a43 : Int) (k0 : Int → Option α) : Option α :=
  let x44 := (decide (a43 = (32 : Int)))
  bif x44 then
    k0 (2139095040 : Int)
  else
    let x45 := (decide (a43 = (64 : Int)))
    bif x45 then
      k0 (9218868437227405312 : Int)
    else
      k0 (0 : Int)
theorem spec_BitTop.ex : ∃ f : ((α : Type) → Nat → Int → (Int → Option α) → Option α), f = fun α => @spec_BitTop.b α := ⟨_, rfl⟩
noncomputable def spec_BitTop {α : Type} : Nat → Int → (Int → Option α) → Option α := Classical.choose spec_BitTop.ex α
theorem spec_BitTop.eq : @spec_BitTop = @spec_BitTop.b := funext fun α => congrFun (Classical.choose_spec spec_BitTop.ex) α

/-- loop.example/pinfold/spec.l1Width -/
noncomputable def spec_l1Width.b {α : Type} (N : Nat) (a49 : Int) (k0 : Bool → Option α) : Option α :=
  let x50 := (decide (a49 = (32 : Int)))
  bif x50 then
    k0 true
  else
    let x51 := (decide (a49 = (64 : Int)))
    k0 x51
theorem spec_l1Width.ex : ∃ f : ((α : Type) → Nat → Int → (Bool → Option α) → Option α), f = fun α => @spec_l1Width.b α := ⟨_, rfl⟩
noncomputable def spec_l1Width {α : Type} : Nat → Int → (Bool → Option α) → Option α := Classical.choose spec_l1Width.ex α
theorem spec_l1Width.eq : @spec_l1Width = @spec_l1Width.b := funext fun α => congrFun (Classical.choose_spec spec_l1Width.ex) α

/-- loop.example/pinfold/spec.BitOk -/
noncomputable def spec_BitOk.b {α : Type} (N : Nat) (a47 : Int) (a48 : Int) (k0 : Bool → Option α) : Option α :=
  spec_l1Width N a47
    (fun x52 =>
      bif x52 then
        spec_BitTop N a47
          (fun x53 =>
            let x54 := IntKind.i64.wrap (0 - x53)
            let x55 := decide (x54 ≤ a48)
            bif x55 then
              spec_BitTop N a47
                (fun x56 =>
                  let x57 := decide (a48 ≤ x56)
                  k0 x57)
            else
              k0 false)
      else
        k0 false)
theorem spec_BitOk.ex : ∃ f : ((α : Type) → Nat → Int → Int → (Bool → Option α) → Option α), f = fun α => @spec_BitOk.b α := ⟨_, rfl⟩
noncomputable def spec_BitOk {α : Type} : Nat → Int → Int → (Bool → Option α) → Option α := Classical.choose spec_BitOk.ex α
theorem spec_BitOk.eq : @spec_BitOk = @spec_BitOk.b := funext fun α => congrFun (Classical.choose_spec spec_BitOk.ex) α

/-- loop.example/pinfold/spec.PairOk -/
noncomputable def spec_PairOk.b {α : Type} (N : Nat) (a41 : Int) (a42 : Int × Int × Unit) (k0 : Bool → Option α) : Option α :=
  spec_BitTop N a41
    (fun x46 =>
      spec_BitOk N a41 a42.1
        (fun x58 =>
          bif x58 then
            spec_BitOk N a41 a42.2.1
              (fun x59 =>
                bif x59 then
                  let x60 := decide (a42.1 ≤ a42.2.1)
                  bif x60 then
                    let x61 := decide (a42.1 < x46)
                    bif x61 then
                      let x62 := IntKind.i64.wrap (0 - x46)
                      let x63 := decide (x62 < a42.2.1)
                      k0 x63
                    else
                      k0 false
                  else
                    k0 false
                else
                  k0 false)
          else
            k0 false))
theorem spec_PairOk.ex : ∃ f : ((α : Type) → Nat → Int → (Int × Int × Unit) → (Bool → Option α) → Option α), f = fun α => @spec_PairOk.b α := ⟨_, rfl⟩
noncomputable def spec_PairOk {α : Type} : Nat → Int → (Int × Int × Unit) → (Bool → Option α) → Option α := Classical.choose spec_PairOk.ex α
theorem spec_PairOk.eq : @spec_PairOk = @spec_PairOk.b := funext fun α => congrFun (Classical.choose_spec spec_PairOk.ex) α

noncomputable def spec_NatOk_L0r {α : Type} (N : Nat) (next : List Int → Int → Option α) (k0 : Bool → Option α) (k1 : List Int → Option α) (v70 : List Int) (v71 : Int) : Option α :=
  let x72 := ((v70.length : Nat) : Int)
  let x73 := decide (v71 < x72)
  bif x73 then
    bif (decide (v71 < (0 : Int))) then
      none
    else
      match v70[v71.toNat]? with
      | some x74 =>
        let x75 := (decide (x74 < (0 : Int)))
        bif x75 then
          k0 false
        else
          bif (decide (v71 < (0 : Int))) then
            none
          else
            match v70[v71.toNat]? with
            | some x76 =>
              let x77 := (decide ((65536 : Int) ≤ x76))
              bif x77 then
                k0 false
              else
                let x78 := (IntKind.i64.wrap (v71 + (1 : Int)))
                next v70 x78
            | none => none
      | none => none
  else
    k1 v70
noncomputable def spec_NatOk_L0.b {α : Type} (N n : Nat) (v70 : List Int) (v71 : Int) (k0 : Bool → Option α) (k1 : List Int → Option α) : Option α :=
  Nat.rec (motive := fun _ => List Int → Int → Option α) (fun _ _ => none) (fun _ next => spec_NatOk_L0r N next k0 k1) n v70 v71
theorem spec_NatOk_L0.ex : ∃ f : ((α : Type) → Nat → Nat → List Int → Int → (Bool → Option α) → (List Int → Option α) → Option α), f = fun α => @spec_NatOk_L0.b α := ⟨_, rfl⟩
noncomputable def spec_NatOk_L0 {α : Type} : Nat → Nat → List Int → Int → (Bool → Option α) → (List Int → Option α) → Option α := Classical.choose spec_NatOk_L0.ex α
theorem spec_NatOk_L0.eq : @spec_NatOk_L0 = @spec_NatOk_L0.b := funext fun α => congrFun (Classical.choose_spec spec_NatOk_L0.ex) α
theorem spec_NatOk_L0.zero {α : Type} (N : Nat) (v70 : List Int) (v71 : Int) (k0 : Bool → Option α) (k1 : List Int → Option α) : spec_NatOk_L0 N 0 v70 v71 k0 k1 = none := by rw [spec_NatOk_L0.eq]; rfl
theorem spec_NatOk_L0.succ {α : Type} (N n : Nat) (v70 : List Int) (v71 : Int) (k0 : Bool → Option α) (k1 : List Int → Option α) : spec_NatOk_L0 N (n + 1) v70 v71 k0 k1 = spec_NatOk_L0r N (fun y0 y1 => spec_NatOk_L0 N n y0 y1 k0 k1) k0 k1 v70 v71 := by rw [spec_NatOk_L0.eq]; rfl
/-- loop.example/pinfold/spec.NatOk -/
noncomputable def spec_NatOk.b {α : Type} (N : Nat) (a67 : List Int) (k0 : Bool → Option α) : Option α :=
  let x68 := ((a67.length : Nat) : Int)
  let x69 := (decide ((256 : Int) < x68))
  bif x69 then
    k0 false
  else
    spec_NatOk_L0 N N a67 (0 : Int)
      (fun x79 =>
        k0 x79)
      (fun x80 =>
        let x81 := ((x80.length : Nat) : Int)
        let x82 := (decide (x81 = (0 : Int)))
        bif x82 then
          k0 true
        else
          let x83 := ((x80.length : Nat) : Int)
          let x84 := (IntKind.i64.wrap (x83 - (1 : Int)))
          bif (decide (x84 < (0 : Int))) then
            none
          else
            match x80[x84.toNat]? with
            | some x85 =>
              let x86 := (!(decide (x85 = (0 : Int))))
              k0 x86
            | none => none)
theorem spec_NatOk.ex : ∃ f : ((α : Type) → Nat → List Int → (Bool → Option α) → Option α), f = fun α => @spec_NatOk.b α := ⟨_, rfl⟩
noncomputable def spec_NatOk {α : Type} : Nat → List Int → (Bool → Option α) → Option α := Classical.choose spec_NatOk.ex α
theorem spec_NatOk.eq : @spec_NatOk = @spec_NatOk.b := funext fun α => congrFun (Classical.choose_spec spec_NatOk.ex) α

noncomputable def spec_l5Trim_L0r {α : Type} (N : Nat) (next : List Int → Int → Option α) (k0 : List Int → Int → Option α) (v99 : List Int) (v100 : Int) : Option α :=
  let x101 := (decide ((0 : Int) < v100))
  bif x101 then
    let x102 := (IntKind.i64.wrap (v100 - (1 : Int)))
    bif (decide (x102 < (0 : Int))) then
      none
    else
      match v99[x102.toNat]? with
      | some x103 =>
        let x104 := (decide (x103 = (0 : Int)))
        bif x104 then
          let x105 := (IntKind.i64.wrap (v100 - (1 : Int)))
          next v99 x105
        else
          k0 v99 v100
      | none => none
  else
    k0 v99 v100
noncomputable def spec_l5Trim_L0.b {α : Type} (N n : Nat) (v99 : List Int) (v100 : Int) (k0 : List Int → Int → Option α) : Option α :=
  Nat.rec (motive := fun _ => List Int → Int → Option α) (fun _ _ => none) (fun _ next => spec_l5Trim_L0r N next k0) n v99 v100
theorem spec_l5Trim_L0.ex : ∃ f : ((α : Type) → Nat → Nat → List Int → Int → (List Int → Int → Option α) → Option α), f = fun α => @spec_l5Trim_L0.b α := ⟨_, rfl⟩
noncomputable def spec_l5Trim_L0 {α : Type} : Nat → Nat → List Int → Int → (List Int → Int → Option α) → Option α := Classical.choose spec_l5Trim_L0.ex α
theorem spec_l5Trim_L0.eq : @spec_l5Trim_L0 = @spec_l5Trim_L0.b := funext fun α => congrFun (Classical.choose_spec spec_l5Trim_L0.ex) α
theorem spec_l5Trim_L0.zero {α : Type} (N : Nat) (v99 : List Int) (v100 : Int) (k0 : List Int → Int → Option α) : spec_l5Trim_L0 N 0 v99 v100 k0 = none := by rw [spec_l5Trim_L0.eq]; rfl
theorem spec_l5Trim_L0.succ {α : Type} (N n : Nat) (v99 : List Int) (v100 : Int) (k0 : List Int → Int → Option α) : spec_l5Trim_L0 N (n + 1) v99 v100 k0 = spec_l5Trim_L0r N (fun y0 y1 => spec_l5Trim_L0 N n y0 y1 k0) k0 v99 v100 := by rw [spec_l5Trim_L0.eq]; rfl
noncomputable def spec_l5Trim_L2r {α : Type} (N : Nat) (next : List Int → Int → Int → List Int → Option α) (k0 : List Int → Option α) (v108 : List Int) (v109 : Int) (v110 : Int) (v111 : List Int) : Option α :=
  let x112 := decide (v110 < v109)
  bif x112 then
    bif (decide (v110 < (0 : Int))) then
      none
    else
      match v108[v110.toNat]? with
      | some x113 =>
        let x114 := [x113]
        bif decide (v111.length + x114.length ≤ 8796093022208) then
          let x115 := v111 ++ x114
          let x116 := (IntKind.i64.wrap (v110 + (1 : Int)))
          next v108 v109 x116 x115
        else
          none
      | none => none
  else
    k0 v111
noncomputable def spec_l5Trim_L2.b {α : Type} (N n : Nat) (v108 : List Int) (v109 : Int) (v110 : Int) (v111 : List Int) (k0 : List Int → Option α) : Option α :=
  Nat.rec (motive := fun _ => List Int → Int → Int → List Int → Option α) (fun _ _ _ _ => none) (fun _ next => spec_l5Trim_L2r N next k0) n v108 v109 v110 v111
theorem spec_l5Trim_L2.ex : ∃ f : ((α : Type) → Nat → Nat → List Int → Int → Int → List Int → (List Int → Option α) → Option α), f = fun α => @spec_l5Trim_L2.b α := ⟨_, rfl⟩
noncomputable def spec_l5Trim_L2 {α : Type} : Nat → Nat → List Int → Int → Int → List Int → (List Int → Option α) → Option α := Classical.choose spec_l5Trim_L2.ex α
theorem spec_l5Trim_L2.eq : @spec_l5Trim_L2 = @spec_l5Trim_L2.b := funext fun α => congrFun (Classical.choose_spec spec_l5Trim_L2.ex) α
theorem spec_l5Trim_L2.zero {α : Type} (N : Nat) (v108 : List Int) (v109 : Int) (v110 : Int) (v111 : List Int) (k0 : List Int → Option α) : spec_l5Trim_L2 N 0 v108 v109 v110 v111 k0 = none := by rw [spec_l5Trim_L2.eq]; rfl
theorem spec_l5Trim_L2.succ {α : Type} (N n : Nat) (v108 : List Int) (v109 : Int) (v110 : Int) (v111 : List Int) (k0 : List Int → Option α) : spec_l5Trim_L2 N (n + 1) v108 v109 v110 v111 k0 = spec_l5Trim_L2r N (fun y0 y1 y2 y3 => spec_l5Trim_L2 N n y0 y1 y2 y3 k0) k0 v108 v109 v110 v111 := by rw [spec_l5Trim_L2.eq]; rfl
/-- loop.example/pinfold/spec.l5Trim -/
noncomputable def spec_l5Trim.b {α : Type} (N : Nat) (a97 : List Int) (k0 : List Int → Option α) : Option α :=
  let x98 := ((a97.length : Nat) : Int)
  spec_l5Trim_L0 N N a97 x98
    (fun x106 x107 =>
      spec_l5Trim_L2 N N x106 x107 (0 : Int) []
        (fun x117 =>
          k0 x117))
theorem spec_l5Trim.ex : ∃ f : ((α : Type) → Nat → List Int → (List Int → Option α) → Option α), f = fun α => @spec_l5Trim.b α := ⟨_, rfl⟩
noncomputable def spec_l5Trim {α : Type} : Nat → List Int → (List Int → Option α) → Option α := Classical.choose spec_l5Trim.ex α
theorem spec_l5Trim.eq : @spec_l5Trim = @spec_l5Trim.b := funext fun α => congrFun (Classical.choose_spec spec_l5Trim.ex) α

noncomputable def spec_l5Cmp_L0r {α : Type} (N : Nat) (next : List Int → List Int → Int → Option α) (k0 : Int → Option α) (k1 : Option α) (v136 : List Int) (v137 : List Int) (v138 : Int) : Option α :=
  let x139 := (decide ((0 : Int) ≤ v138))
  bif x139 then
    bif (decide (v138 < (0 : Int))) then
      none
    else
      match v136[v138.toNat]? with
      | some x140 =>
        bif (decide (v138 < (0 : Int))) then
          none
        else
          match v137[v138.toNat]? with
          | some x141 =>
            let x142 := decide (x140 < x141)
            bif x142 then
              k0 (-1 : Int)
            else
              bif (decide (v138 < (0 : Int))) then
                none
              else
                match v136[v138.toNat]? with
                | some x143 =>
                  bif (decide (v138 < (0 : Int))) then
                    none
                  else
                    match v137[v138.toNat]? with
                    | some x144 =>
                      let x145 := decide (x144 < x143)
                      bif x145 then
                        k0 (1 : Int)
                      else
                        let x146 := (IntKind.i64.wrap (v138 - (1 : Int)))
                        next v136 v137 x146
                    | none => none
                | none => none
          | none => none
      | none => none
  else
    k1
noncomputable def spec_l5Cmp_L0.b {α : Type} (N n : Nat) (v136 : List Int) (v137 : List Int) (v138 : Int) (k0 : Int → Option α) (k1 : Option α) : Option α :=
  Nat.rec (motive := fun _ => List Int → List Int → Int → Option α) (fun _ _ _ => none) (fun _ next => spec_l5Cmp_L0r N next k0 k1) n v136 v137 v138
theorem spec_l5Cmp_L0.ex : ∃ f : ((α : Type) → Nat → Nat → List Int → List Int → Int → (Int → Option α) → (Option α) → Option α), f = fun α => @spec_l5Cmp_L0.b α := ⟨_, rfl⟩
noncomputable def spec_l5Cmp_L0 {α : Type} : Nat → Nat → List Int → List Int → Int → (Int → Option α) → (Option α) → Option α := Classical.choose spec_l5Cmp_L0.ex α
theorem spec_l5Cmp_L0.eq : @spec_l5Cmp_L0 = @spec_l5Cmp_L0.b := funext fun α => congrFun (Classical.choose_spec spec_l5Cmp_L0.ex) α
theorem spec_l5Cmp_L0.zero {α : Type} (N : Nat) (v136 : List Int) (v137 : List Int) (v138 : Int) (k0 : Int → Option α) (k1 : Option α) : spec_l5Cmp_L0 N 0 v136 v137 v138 k0 k1 = none := by rw [spec_l5Cmp_L0.eq]; rfl
theorem spec_l5Cmp_L0.succ {α : Type} (N n : Nat) (v136 : List Int) (v137 : List Int) (v138 : Int) (k0 : Int → Option α) (k1 : Option α) : spec_l5Cmp_L0 N (n + 1) v136 v137 v138 k0 k1 = spec_l5Cmp_L0r N (fun y0 y1 y2 => spec_l5Cmp_L0 N n y0 y1 y2 k0 k1) k0 k1 v136 v137 v138 := by rw [spec_l5Cmp_L0.eq]; rfl
/-- loop.example/pinfold/spec.l5Cmp -/
noncomputable def spec_l5Cmp.b {α : Type} (N : Nat) (a126 : List Int) (a127 : List Int) (k0 : Int → Option α) : Option α :=
  let x128 := ((a126.length : Nat) : Int)
  let x129 := ((a127.length : Nat) : Int)
  let x130 := decide (x128 < x129)
  bif x130 then
    k0 (-1 : Int)
  else
    let x131 := ((a126.length : Nat) : Int)
    let x132 := ((a127.length : Nat) : Int)
    let x133 := decide (x132 < x131)
    bif x133 then
      k0 (1 : Int)
    else
      let x134 := ((a126.length : Nat) : Int)
      let x135 := (IntKind.i64.wrap (x134 - (1 : Int)))
      spec_l5Cmp_L0 N N a126 a127 x135
        (fun x147 =>
          k0 x147)
        (
          k0 (0 : Int))
theorem spec_l5Cmp.ex : ∃ f : ((α : Type) → Nat → List Int → List Int → (Int → Option α) → Option α), f = fun α => @spec_l5Cmp.b α := ⟨_, rfl⟩
noncomputable def spec_l5Cmp {α : Type} : Nat → List Int → List Int → (Int → Option α) → Option α := Classical.choose spec_l5Cmp.ex α
theorem spec_l5Cmp.eq : @spec_l5Cmp = @spec_l5Cmp.b := funext fun α => congrFun (Classical.choose_spec spec_l5Cmp.ex) α

noncomputable def spec_l5DivSmall_L0r {α : Type} (N : Nat) (next : List Int → Int → Int → Int → List Int → Option α) (k0 : Int → List Int → Option α) (v160 : List Int) (v161 : Int) (v162 : Int) (v163 : Int) (v164 : List Int) : Option α :=
  let x165 := (decide ((0 : Int) ≤ v163))
  bif x165 then
    let x166 := (IntKind.i64.wrap (v162 * (65536 : Int)))
    bif (decide (v163 < (0 : Int))) then
      none
    else
      match v160[v163.toNat]? with
      | some x167 =>
        let x168 := IntKind.i64.wrap (x166 + x167)
        bif (decide (v161 = (0 : Int))) then
          none
        else
          let x169 := IntKind.i64.wrap (Int.tdiv x168 v161)
          bif (decide (v163 < (0 : Int))) then
            none
          else
            bif decide (v163.toNat < v164.length) then
              match v164[v163.toNat]? with
              | some x170 =>
                let x171 := v164.set v163.toNat x169
                bif (decide (v161 = (0 : Int))) then
                  none
                else
                  let x172 := Int.tmod x168 v161
                  let x173 := (IntKind.i64.wrap (v163 - (1 : Int)))
                  next v160 v161 x172 x173 x171
              | none => none
            else
              none
      | none => none
  else
    k0 v162 v164
noncomputable def spec_l5DivSmall_L0.b {α : Type} (N n : Nat) (v160 : List Int) (v161 : Int) (v162 : Int) (v163 : Int) (v164 : List Int) (k0 : Int → List Int → Option α) : Option α :=
  Nat.rec (motive := fun _ => List Int → Int → Int → Int → List Int → Option α) (fun _ _ _ _ _ => none) (fun _ next => spec_l5DivSmall_L0r N next k0) n v160 v161 v162 v163 v164
theorem spec_l5DivSmall_L0.ex : ∃ f : ((α : Type) → Nat → Nat → List Int → Int → Int → Int → List Int → (Int → List Int → Option α) → Option α), f = fun α => @spec_l5DivSmall_L0.b α := ⟨_, rfl⟩
noncomputable def spec_l5DivSmall_L0 {α : Type} : Nat → Nat → List Int → Int → Int → Int → List Int → (Int → List Int → Option α) → Option α := Classical.choose spec_l5DivSmall_L0.ex α
theorem spec_l5DivSmall_L0.eq : @spec_l5DivSmall_L0 = @spec_l5DivSmall_L0.b := funext fun α => congrFun (Classical.choose_spec spec_l5DivSmall_L0.ex) α
theorem spec_l5DivSmall_L0.zero {α : Type} (N : Nat) (v160 : List Int) (v161 : Int) (v162 : Int) (v163 : Int) (v164 : List Int) (k0 : Int → List Int → Option α) : spec_l5DivSmall_L0 N 0 v160 v161 v162 v163 v164 k0 = none := by rw [spec_l5DivSmall_L0.eq]; rfl
theorem spec_l5DivSmall_L0.succ {α : Type} (N n : Nat) (v160 : List Int) (v161 : Int) (v162 : Int) (v163 : Int) (v164 : List Int) (k0 : Int → List Int → Option α) : spec_l5DivSmall_L0 N (n + 1) v160 v161 v162 v163 v164 k0 = spec_l5DivSmall_L0r N (fun y0 y1 y2 y3 y4 => spec_l5DivSmall_L0 N n y0 y1 y2 y3 y4 k0) k0 v160 v161 v162 v163 v164 := by rw [spec_l5DivSmall_L0.eq]; rfl
/-- loop.example/pinfold/spec.l5DivSmall -/
noncomputable def spec_l5DivSmall.b {α : Type} (N : Nat) (a154 : List Int) (a155 : Int) (k0 : Int → List Int → Option α) : Option α :=
  let x156 := ((a154.length : Nat) : Int)
  bif (decide ((0 : Int) ≤ x156)) then
    bif decide (x156 ≤ x156) then
      bif (decide (x156 ≤ ((8796093022208 : Nat) : Int))) then
        let x157 := (List.replicate x156.toNat (0 : Int))
        let x158 := ((a154.length : Nat) : Int)
        let x159 := (IntKind.i64.wrap (x158 - (1 : Int)))
        spec_l5DivSmall_L0 N N a154 a155 (0 : Int) x159 x157
          (fun x174 x175 =>
            spec_l5Trim N x175
              (fun x176 =>
                k0 x174 x176))
      else
        none
    else
      none
  else
    none
theorem spec_l5DivSmall.ex : ∃ f : ((α : Type) → Nat → List Int → Int → (Int → List Int → Option α) → Option α), f = fun α => @spec_l5DivSmall.b α := ⟨_, rfl⟩
noncomputable def spec_l5DivSmall {α : Type} : Nat → List Int → Int → (Int → List Int → Option α) → Option α := Classical.choose spec_l5DivSmall.ex α
theorem spec_l5DivSmall.eq : @spec_l5DivSmall = @spec_l5DivSmall.b := funext fun α => congrFun (Classical.choose_spec spec_l5DivSmall.ex) α

noncomputable def spec_NatOf_L0r {α : Type} (N : Nat) (next : Int → List Int → Option α) (k0 : List Int → Option α) (v181 : Int) (v182 : List Int) : Option α :=
  let x183 := (decide ((0 : Int) < v181))
  bif x183 then
    let x184 := (Int.tmod v181 (65536 : Int))
    let x185 := IntKind.i64.wrap x184
    let x186 := [x185]
    bif decide (v182.length + x186.length ≤ 8796093022208) then
      let x187 := v182 ++ x186
      let x188 := (IntKind.u64.wrap (Int.tdiv v181 (65536 : Int)))
      next x188 x187
    else
      none
  else
    k0 v182
noncomputable def spec_NatOf_L0.b {α : Type} (N n : Nat) (v181 : Int) (v182 : List Int) (k0 : List Int → Option α) : Option α :=
  Nat.rec (motive := fun _ => Int → List Int → Option α) (fun _ _ => none) (fun _ next => spec_NatOf_L0r N next k0) n v181 v182
theorem spec_NatOf_L0.ex : ∃ f : ((α : Type) → Nat → Nat → Int → List Int → (List Int → Option α) → Option α), f = fun α => @spec_NatOf_L0.b α := ⟨_, rfl⟩
noncomputable def spec_NatOf_L0 {α : Type} : Nat → Nat → Int → List Int → (List Int → Option α) → Option α := Classical.choose spec_NatOf_L0.ex α
theorem spec_NatOf_L0.eq : @spec_NatOf_L0 = @spec_NatOf_L0.b := funext fun α => congrFun (Classical.choose_spec spec_NatOf_L0.ex) α
theorem spec_NatOf_L0.zero {α : Type} (N : Nat) (v181 : Int) (v182 : List Int) (k0 : List Int → Option α) : spec_NatOf_L0 N 0 v181 v182 k0 = none := by rw [spec_NatOf_L0.eq]; rfl
theorem spec_NatOf_L0.succ {α : Type} (N n : Nat) (v181 : Int) (v182 : List Int) (k0 : List Int → Option α) : spec_NatOf_L0 N (n + 1) v181 v182 k0 = spec_NatOf_L0r N (fun y0 y1 => spec_NatOf_L0 N n y0 y1 k0) k0 v181 v182 := by rw [spec_NatOf_L0.eq]; rfl
/-- loop.example/pinfold/spec.NatOf -/
noncomputable def spec_NatOf.b {α : Type} (N : Nat) (a180 : Int) (k0 : List Int → Option α) : Option α :=
  spec_NatOf_L0 N N a180 []
    (fun x189 =>
      k0 x189)
theorem spec_NatOf.ex : ∃ f : ((α : Type) → Nat → Int → (List Int → Option α) → Option α), f = fun α => @spec_NatOf.b α := ⟨_, rfl⟩
noncomputable def spec_NatOf {α : Type} : Nat → Int → (List Int → Option α) → Option α := Classical.choose spec_NatOf.ex α
theorem spec_NatOf.eq : @spec_NatOf = @spec_NatOf.b := funext fun α => congrFun (Classical.choose_spec spec_NatOf.ex) α

noncomputable def spec_l5Mul_L2r {α : Type} (N : Nat) (next : List Int → List Int → Int → Int → Int → List Int → Option α) (k0 : List Int → List Int → Int → Int → List Int → Option α) (v212 : List Int) (v213 : List Int) (v214 : Int) (v215 : Int) (v216 : Int) (v217 : List Int) : Option α :=
  let x218 := ((v213.length : Nat) : Int)
  let x219 := decide (v216 < x218)
  bif x219 then
    let x220 := IntKind.i64.wrap (v214 + v216)
    bif (decide (x220 < (0 : Int))) then
      none
    else
      bif decide (x220.toNat < v217.length) then
        match v217[x220.toNat]? with
        | some x221 =>
          bif (decide (v214 < (0 : Int))) then
            none
          else
            match v212[v214.toNat]? with
            | some x222 =>
              bif (decide (v216 < (0 : Int))) then
                none
              else
                match v213[v216.toNat]? with
                | some x223 =>
                  let x224 := IntKind.i64.wrap (x222 * x223)
                  let x225 := IntKind.i64.wrap (x221 + x224)
                  let x226 := IntKind.i64.wrap (x225 + v215)
                  let x227 := IntKind.i64.wrap (v214 + v216)
                  let x228 := (Int.tmod x226 (65536 : Int))
                  bif (decide (x227 < (0 : Int))) then
                    none
                  else
                    bif decide (x227.toNat < v217.length) then
                      match v217[x227.toNat]? with
                      | some x229 =>
                        let x230 := v217.set x227.toNat x228
                        let x231 := (IntKind.i64.wrap (Int.tdiv x226 (65536 : Int)))
                        let x232 := (IntKind.i64.wrap (v216 + (1 : Int)))
                        next v212 v213 v214 x231 x232 x230
                      | none => none
                    else
                      none
                | none => none
            | none => none
        | none => none
      else
        none
  else
    k0 v212 v213 v214 v215 v217
noncomputable def spec_l5Mul_L2.b {α : Type} (N n : Nat) (v212 : List Int) (v213 : List Int) (v214 : Int) (v215 : Int) (v216 : Int) (v217 : List Int) (k0 : List Int → List Int → Int → Int → List Int → Option α) : Option α :=
  Nat.rec (motive := fun _ => List Int → List Int → Int → Int → Int → List Int → Option α) (fun _ _ _ _ _ _ => none) (fun _ next => spec_l5Mul_L2r N next k0) n v212 v213 v214 v215 v216 v217
theorem spec_l5Mul_L2.ex : ∃ f : ((α : Type) → Nat → Nat → List Int → List Int → Int → Int → Int → List Int → (List Int → List Int → Int → Int → List Int → Option α) → Option α), f = fun α => @spec_l5Mul_L2.b α := ⟨_, rfl⟩
noncomputable def spec_l5Mul_L2 {α : Type} : Nat → Nat → List Int → List Int → Int → Int → Int → List Int → (List Int → List Int → Int → Int → List Int → Option α) → Option α := Classical.choose spec_l5Mul_L2.ex α
theorem spec_l5Mul_L2.eq : @spec_l5Mul_L2 = @spec_l5Mul_L2.b := funext fun α => congrFun (Classical.choose_spec spec_l5Mul_L2.ex) α
theorem spec_l5Mul_L2.zero {α : Type} (N : Nat) (v212 : List Int) (v213 : List Int) (v214 : Int) (v215 : Int) (v216 : Int) (v217 : List Int) (k0 : List Int → List Int → Int → Int → List Int → Option α) : spec_l5Mul_L2 N 0 v212 v213 v214 v215 v216 v217 k0 = none := by rw [spec_l5Mul_L2.eq]; rfl
theorem spec_l5Mul_L2.succ {α : Type} (N n : Nat) (v212 : List Int) (v213 : List Int) (v214 : Int) (v215 : Int) (v216 : Int) (v217 : List Int) (k0 : List Int → List Int → Int → Int → List Int → Option α) : spec_l5Mul_L2 N (n + 1) v212 v213 v214 v215 v216 v217 k0 = spec_l5Mul_L2r N (fun y0 y1 y2 y3 y4 y5 => spec_l5Mul_L2 N n y0 y1 y2 y3 y4 y5 k0) k0 v212 v213 v214 v215 v216 v217 := by rw [spec_l5Mul_L2.eq]; rfl
noncomputable def spec_l5Mul_L0r {α : Type} (N : Nat) (next : List Int → List Int → Int → List Int → Option α) (k0 : List Int → Option α) (v206 : List Int) (v207 : List Int) (v208 : Int) (v209 : List Int) : Option α :=
  let x210 := ((v206.length : Nat) : Int)
  let x211 := decide (v208 < x210)
  bif x211 then
    spec_l5Mul_L2 N N v206 v207 v208 (0 : Int) (0 : Int) v209
      (fun x233 x234 x235 x236 x237 =>
        let x238 := ((x234.length : Nat) : Int)
        let x239 := IntKind.i64.wrap (x235 + x238)
        bif (decide (x239 < (0 : Int))) then
          none
        else
          bif decide (x239.toNat < x237.length) then
            match x237[x239.toNat]? with
            | some x240 =>
              let x241 := x237.set x239.toNat x236
              let x242 := (IntKind.i64.wrap (x235 + (1 : Int)))
              next x233 x234 x242 x241
            | none => none
          else
            none)
  else
    k0 v209
noncomputable def spec_l5Mul_L0.b {α : Type} (N n : Nat) (v206 : List Int) (v207 : List Int) (v208 : Int) (v209 : List Int) (k0 : List Int → Option α) : Option α :=
  Nat.rec (motive := fun _ => List Int → List Int → Int → List Int → Option α) (fun _ _ _ _ => none) (fun _ next => spec_l5Mul_L0r N next k0) n v206 v207 v208 v209
theorem spec_l5Mul_L0.ex : ∃ f : ((α : Type) → Nat → Nat → List Int → List Int → Int → List Int → (List Int → Option α) → Option α), f = fun α => @spec_l5Mul_L0.b α := ⟨_, rfl⟩
noncomputable def spec_l5Mul_L0 {α : Type} : Nat → Nat → List Int → List Int → Int → List Int → (List Int → Option α) → Option α := Classical.choose spec_l5Mul_L0.ex α
theorem spec_l5Mul_L0.eq : @spec_l5Mul_L0 = @spec_l5Mul_L0.b := funext fun α => congrFun (Classical.choose_spec spec_l5Mul_L0.ex) α
theorem spec_l5Mul_L0.zero {α : Type} (N : Nat) (v206 : List Int) (v207 : List Int) (v208 : Int) (v209 : List Int) (k0 : List Int → Option α) : spec_l5Mul_L0 N 0 v206 v207 v208 v209 k0 = none := by rw [spec_l5Mul_L0.eq]; rfl
theorem spec_l5Mul_L0.succ {α : Type} (N n : Nat) (v206 : List Int) (v207 : List Int) (v208 : Int) (v209 : List Int) (k0 : List Int → Option α) : spec_l5Mul_L0 N (n + 1) v206 v207 v208 v209 k0 = spec_l5Mul_L0r N (fun y0 y1 y2 y3 => spec_l5Mul_L0 N n y0 y1 y2 y3 k0) k0 v206 v207 v208 v209 := by rw [spec_l5Mul_L0.eq]; rfl
/-- loop.example/pinfold/spec.l5Mul -/
noncomputable def spec_l5Mul.b {α : Type} (N : Nat) (a200 : List Int) (a201 : List Int) (k0 : List Int → Option α) : Option α :=
  let x202 := ((a200.length : Nat) : Int)
  let x203 := ((a201.length : Nat) : Int)
  let x204 := IntKind.i64.wrap (x202 + x203)
  bif (decide ((0 : Int) ≤ x204)) then
    bif decide (x204 ≤ x204) then
      bif (decide (x204 ≤ ((8796093022208 : Nat) : Int))) then
        let x205 := (List.replicate x204.toNat (0 : Int))
        spec_l5Mul_L0 N N a200 a201 (0 : Int) x205
          (fun x243 =>
            spec_l5Trim N x243
              (fun x244 =>
                k0 x244))
      else
        none
    else
      none
  else
    none
theorem spec_l5Mul.ex : ∃ f : ((α : Type) → Nat → List Int → List Int → (List Int → Option α) → Option α), f = fun α => @spec_l5Mul.b α := ⟨_, rfl⟩
noncomputable def spec_l5Mul {α : Type} : Nat → List Int → List Int → (List Int → Option α) → Option α := Classical.choose spec_l5Mul.ex α
theorem spec_l5Mul.eq : @spec_l5Mul = @spec_l5Mul.b := funext fun α => congrFun (Classical.choose_spec spec_l5Mul.ex) α

/-- loop.example/pinfold/spec.l5Times -/
noncomputable def spec_l5Times.b {α : Type} (N : Nat) (a196 : List Int) (a197 : Int) (k0 : List Int → Option α) : Option α :=
  let x198 := (decide (a197 = (0 : Int)))
  bif x198 then
    k0 []
  else
    let x199 := [a197]
    spec_l5Mul N a196 x199
      (fun x245 =>
        k0 x245)
theorem spec_l5Times.ex : ∃ f : ((α : Type) → Nat → List Int → Int → (List Int → Option α) → Option α), f = fun α => @spec_l5Times.b α := ⟨_, rfl⟩
noncomputable def spec_l5Times {α : Type} : Nat → List Int → Int → (List Int → Option α) → Option α := Classical.choose spec_l5Times.ex α
theorem spec_l5Times.eq : @spec_l5Times = @spec_l5Times.b := funext fun α => congrFun (Classical.choose_spec spec_l5Times.ex) α

noncomputable def spec_l5Top_L0r {α : Type} (N : Nat) (next : List Int → Int → List Int → Option α) (k0 : List Int → Option α) (v258 : List Int) (v259 : Int) (v260 : List Int) : Option α :=
  let x261 := ((v258.length : Nat) : Int)
  let x262 := decide (v259 < x261)
  bif x262 then
    bif (decide (v259 < (0 : Int))) then
      none
    else
      match v258[v259.toNat]? with
      | some x263 =>
        let x264 := [x263]
        bif decide (v260.length + x264.length ≤ 8796093022208) then
          let x265 := v260 ++ x264
          let x266 := (IntKind.i64.wrap (v259 + (1 : Int)))
          next v258 x266 x265
        else
          none
      | none => none
  else
    k0 v260
noncomputable def spec_l5Top_L0.b {α : Type} (N n : Nat) (v258 : List Int) (v259 : Int) (v260 : List Int) (k0 : List Int → Option α) : Option α :=
  Nat.rec (motive := fun _ => List Int → Int → List Int → Option α) (fun _ _ _ => none) (fun _ next => spec_l5Top_L0r N next k0) n v258 v259 v260
theorem spec_l5Top_L0.ex : ∃ f : ((α : Type) → Nat → Nat → List Int → Int → List Int → (List Int → Option α) → Option α), f = fun α => @spec_l5Top_L0.b α := ⟨_, rfl⟩
noncomputable def spec_l5Top_L0 {α : Type} : Nat → Nat → List Int → Int → List Int → (List Int → Option α) → Option α := Classical.choose spec_l5Top_L0.ex α
theorem spec_l5Top_L0.eq : @spec_l5Top_L0 = @spec_l5Top_L0.b := funext fun α => congrFun (Classical.choose_spec spec_l5Top_L0.ex) α
theorem spec_l5Top_L0.zero {α : Type} (N : Nat) (v258 : List Int) (v259 : Int) (v260 : List Int) (k0 : List Int → Option α) : spec_l5Top_L0 N 0 v258 v259 v260 k0 = none := by rw [spec_l5Top_L0.eq]; rfl
theorem spec_l5Top_L0.succ {α : Type} (N n : Nat) (v258 : List Int) (v259 : Int) (v260 : List Int) (k0 : List Int → Option α) : spec_l5Top_L0 N (n + 1) v258 v259 v260 k0 = spec_l5Top_L0r N (fun y0 y1 y2 => spec_l5Top_L0 N n y0 y1 y2 k0) k0 v258 v259 v260 := by rw [spec_l5Top_L0.eq]; rfl
/-- loop.example/pinfold/spec.l5Top -/
noncomputable def spec_l5Top.b {α : Type} (N : Nat) (a256 : List Int) (a257 : Int) (k0 : List Int → Option α) : Option α :=
  spec_l5Top_L0 N N a256 a257 []
    (fun x267 =>
      k0 x267)
theorem spec_l5Top.ex : ∃ f : ((α : Type) → Nat → List Int → Int → (List Int → Option α) → Option α), f = fun α => @spec_l5Top.b α := ⟨_, rfl⟩
noncomputable def spec_l5Top {α : Type} : Nat → List Int → Int → (List Int → Option α) → Option α := Classical.choose spec_l5Top.ex α
theorem spec_l5Top.eq : @spec_l5Top = @spec_l5Top.b := funext fun α => congrFun (Classical.choose_spec spec_l5Top.ex) α

noncomputable def spec_l5Shl_L0r {α : Type} (N : Nat) (next : List Int → Int → List Int → Option α) (k0 : List Int → Option α) (v284 : List Int) (v285 : Int) (v286 : List Int) : Option α :=
  let x287 := ((v284.length : Nat) : Int)
  let x288 := decide (v285 < x287)
  bif x288 then
    bif (decide (v285 < (0 : Int))) then
      none
    else
      match v284[v285.toNat]? with
      | some x289 =>
        let x290 := [x289]
        bif decide (v286.length + x290.length ≤ 8796093022208) then
          let x291 := v286 ++ x290
          let x292 := (IntKind.i64.wrap (v285 + (1 : Int)))
          next v284 x292 x291
        else
          none
      | none => none
  else
    k0 v286
noncomputable def spec_l5Shl_L0.b {α : Type} (N n : Nat) (v284 : List Int) (v285 : Int) (v286 : List Int) (k0 : List Int → Option α) : Option α :=
  Nat.rec (motive := fun _ => List Int → Int → List Int → Option α) (fun _ _ _ => none) (fun _ next => spec_l5Shl_L0r N next k0) n v284 v285 v286
theorem spec_l5Shl_L0.ex : ∃ f : ((α : Type) → Nat → Nat → List Int → Int → List Int → (List Int → Option α) → Option α), f = fun α => @spec_l5Shl_L0.b α := ⟨_, rfl⟩
noncomputable def spec_l5Shl_L0 {α : Type} : Nat → Nat → List Int → Int → List Int → (List Int → Option α) → Option α := Classical.choose spec_l5Shl_L0.ex α
theorem spec_l5Shl_L0.eq : @spec_l5Shl_L0 = @spec_l5Shl_L0.b := funext fun α => congrFun (Classical.choose_spec spec_l5Shl_L0.ex) α
theorem spec_l5Shl_L0.zero {α : Type} (N : Nat) (v284 : List Int) (v285 : Int) (v286 : List Int) (k0 : List Int → Option α) : spec_l5Shl_L0 N 0 v284 v285 v286 k0 = none := by rw [spec_l5Shl_L0.eq]; rfl
theorem spec_l5Shl_L0.succ {α : Type} (N n : Nat) (v284 : List Int) (v285 : Int) (v286 : List Int) (k0 : List Int → Option α) : spec_l5Shl_L0 N (n + 1) v284 v285 v286 k0 = spec_l5Shl_L0r N (fun y0 y1 y2 => spec_l5Shl_L0 N n y0 y1 y2 k0) k0 v284 v285 v286 := by rw [spec_l5Shl_L0.eq]; rfl
/-- loop.example/pinfold/spec.l5Shl -/
noncomputable def spec_l5Shl.b {α : Type} (N : Nat) (a279 : List Int) (a280 : Int) (k0 : List Int → Option α) : Option α :=
  let x281 := ((a279.length : Nat) : Int)
  let x282 := (decide (x281 = (0 : Int)))
  bif x282 then
    k0 []
  else
    bif (decide ((0 : Int) ≤ a280)) then
      bif decide (a280 ≤ a280) then
        bif (decide (a280 ≤ ((8796093022208 : Nat) : Int))) then
          let x283 := (List.replicate a280.toNat (0 : Int))
          spec_l5Shl_L0 N N a279 (0 : Int) x283
            (fun x293 =>
              k0 x293)
        else
          none
      else
        none
    else
      none
theorem spec_l5Shl.ex : ∃ f : ((α : Type) → Nat → List Int → Int → (List Int → Option α) → Option α), f = fun α => @spec_l5Shl.b α := ⟨_, rfl⟩
noncomputable def spec_l5Shl {α : Type} : Nat → List Int → Int → (List Int → Option α) → Option α := Classical.choose spec_l5Shl.ex α
theorem spec_l5Shl.eq : @spec_l5Shl = @spec_l5Shl.b := funext fun α => congrFun (Classical.choose_spec spec_l5Shl.ex) α

/-- loop.example/pinfold/spec.l5At -/
noncomputable def spec_l5At.b {α : Type} (N : Nat) (a317 : List Int) (a318 : Int) (k0 : Int → Option α) : Option α :=
  let x319 := ((a317.length : Nat) : Int)
  let x320 := decide (a318 < x319)
  bif x320 then
    bif (decide (a318 < (0 : Int))) then
      none
    else
      match a317[a318.toNat]? with
      | some x321 =>
        k0 x321
      | none => none
  else
    k0 (0 : Int)
theorem spec_l5At.ex : ∃ f : ((α : Type) → Nat → List Int → Int → (Int → Option α) → Option α), f = fun α => @spec_l5At.b α := ⟨_, rfl⟩
noncomputable def spec_l5At {α : Type} : Nat → List Int → Int → (Int → Option α) → Option α := Classical.choose spec_l5At.ex α
theorem spec_l5At.eq : @spec_l5At = @spec_l5At.b := funext fun α => congrFun (Classical.choose_spec spec_l5At.ex) α

noncomputable def spec_l5Add_J2.b {α : Type} (N : Nat) (v301 : List Int) (v302 : List Int) (v303 : Int) (k0 : List Int → List Int → Int → Option α) : Option α :=
  let x304 := ((v302.length : Nat) : Int)
  let x305 := decide (v303 < x304)
  bif x305 then
    let x306 := ((v302.length : Nat) : Int)
    k0 v301 v302 x306
  else
    k0 v301 v302 v303
theorem spec_l5Add_J2.ex : ∃ f : ((α : Type) → Nat → List Int → List Int → Int → (List Int → List Int → Int → Option α) → Option α), f = fun α => @spec_l5Add_J2.b α := ⟨_, rfl⟩
noncomputable def spec_l5Add_J2 {α : Type} : Nat → List Int → List Int → Int → (List Int → List Int → Int → Option α) → Option α := Classical.choose spec_l5Add_J2.ex α
theorem spec_l5Add_J2.eq : @spec_l5Add_J2 = @spec_l5Add_J2.b := funext fun α => congrFun (Classical.choose_spec spec_l5Add_J2.ex) α
noncomputable def spec_l5Add_L0r {α : Type} (N : Nat) (next : List Int → List Int → Int → Int → Int → List Int → Option α) (k0 : Int → List Int → Option α) (v310 : List Int) (v311 : List Int) (v312 : Int) (v313 : Int) (v314 : Int) (v315 : List Int) : Option α :=
  let x316 := decide (v314 < v312)
  bif x316 then
    spec_l5At N v310 v314
      (fun x322 =>
        spec_l5At N v311 v314
          (fun x323 =>
            let x324 := IntKind.i64.wrap (x322 + x323)
            let x325 := IntKind.i64.wrap (x324 + v313)
            let x326 := (Int.tmod x325 (65536 : Int))
            let x327 := [x326]
            bif decide (v315.length + x327.length ≤ 8796093022208) then
              let x328 := v315 ++ x327
              let x329 := (IntKind.i64.wrap (Int.tdiv x325 (65536 : Int)))
              let x330 := (IntKind.i64.wrap (v314 + (1 : Int)))
              next v310 v311 v312 x329 x330 x328
            else
              none))
  else
    k0 v313 v315
noncomputable def spec_l5Add_L0.b {α : Type} (N n : Nat) (v310 : List Int) (v311 : List Int) (v312 : Int) (v313 : Int) (v314 : Int) (v315 : List Int) (k0 : Int → List Int → Option α) : Option α :=
  Nat.rec (motive := fun _ => List Int → List Int → Int → Int → Int → List Int → Option α) (fun _ _ _ _ _ _ => none) (fun _ next => spec_l5Add_L0r N next k0) n v310 v311 v312 v313 v314 v315
theorem spec_l5Add_L0.ex : ∃ f : ((α : Type) → Nat → Nat → List Int → List Int → Int → Int → Int → List Int → (Int → List Int → Option α) → Option α), f = fun α => @spec_l5Add_L0.b α := ⟨_, rfl⟩
noncomputable def spec_l5Add_L0 {α : Type} : Nat → Nat → List Int → List Int → Int → Int → Int → List Int → (Int → List Int → Option α) → Option α := Classical.choose spec_l5Add_L0.ex α
theorem spec_l5Add_L0.eq : @spec_l5Add_L0 = @spec_l5Add_L0.b := funext fun α => congrFun (Classical.choose_spec spec_l5Add_L0.ex) α
theorem spec_l5Add_L0.zero {α : Type} (N : Nat) (v310 : List Int) (v311 : List Int) (v312 : Int) (v313 : Int) (v314 : Int) (v315 : List Int) (k0 : Int → List Int → Option α) : spec_l5Add_L0 N 0 v310 v311 v312 v313 v314 v315 k0 = none := by rw [spec_l5Add_L0.eq]; rfl
theorem spec_l5Add_L0.succ {α : Type} (N n : Nat) (v310 : List Int) (v311 : List Int) (v312 : Int) (v313 : Int) (v314 : Int) (v315 : List Int) (k0 : Int → List Int → Option α) : spec_l5Add_L0 N (n + 1) v310 v311 v312 v313 v314 v315 k0 = spec_l5Add_L0r N (fun y0 y1 y2 y3 y4 y5 => spec_l5Add_L0 N n y0 y1 y2 y3 y4 y5 k0) k0 v310 v311 v312 v313 v314 v315 := by rw [spec_l5Add_L0.eq]; rfl
noncomputable def spec_l5Add_J12.b {α : Type} (N : Nat) (v333 : Int) (v334 : List Int) (k0 : List Int → Option α) : Option α :=
  let x335 := (decide ((0 : Int) < v333))
  bif x335 then
    let x336 := [v333]
    bif decide (v334.length + x336.length ≤ 8796093022208) then
      let x337 := v334 ++ x336
      k0 x337
    else
      none
  else
    k0 v334
theorem spec_l5Add_J12.ex : ∃ f : ((α : Type) → Nat → Int → List Int → (List Int → Option α) → Option α), f = fun α => @spec_l5Add_J12.b α := ⟨_, rfl⟩
noncomputable def spec_l5Add_J12 {α : Type} : Nat → Int → List Int → (List Int → Option α) → Option α := Classical.choose spec_l5Add_J12.ex α
theorem spec_l5Add_J12.eq : @spec_l5Add_J12 = @spec_l5Add_J12.b := funext fun α => congrFun (Classical.choose_spec spec_l5Add_J12.ex) α
/-- loop.example/pinfold/spec.l5Add -/
noncomputable def spec_l5Add.b {α : Type} (N : Nat) (a298 : List Int) (a299 : List Int) (k0 : List Int → Option α) : Option α :=
  let x300 := ((a298.length : Nat) : Int)
  spec_l5Add_J2 N a298 a299 x300
    (fun x307 x308 x309 =>
      spec_l5Add_L0 N N x307 x308 x309 (0 : Int) (0 : Int) []
        (fun x331 x332 =>
          spec_l5Add_J12 N x331 x332
            (fun x338 =>
              k0 x338)))
theorem spec_l5Add.ex : ∃ f : ((α : Type) → Nat → List Int → List Int → (List Int → Option α) → Option α), f = fun α => @spec_l5Add.b α := ⟨_, rfl⟩
noncomputable def spec_l5Add {α : Type} : Nat → List Int → List Int → (List Int → Option α) → Option α := Classical.choose spec_l5Add.ex α
theorem spec_l5Add.eq : @spec_l5Add = @spec_l5Add.b := funext fun α => congrFun (Classical.choose_spec spec_l5Add.ex) α

noncomputable def spec_l5Sub_J8.b {α : Type} (N : Nat) (v391 : List Int) (v392 : List Int) (v393 : Int) (v394 : Int) (v395 : Int) (v396 : List Int) (k0 : List Int → List Int → Int → Int → Int → List Int → Option α) : Option α :=
  let x397 := (decide (v395 < (0 : Int)))
  bif x397 then
    let x398 := (IntKind.i64.wrap (v395 + (65536 : Int)))
    k0 v391 v392 (1 : Int) v394 x398 v396
  else
    k0 v391 v392 v393 v394 v395 v396
theorem spec_l5Sub_J8.ex : ∃ f : ((α : Type) → Nat → List Int → List Int → Int → Int → Int → List Int → (List Int → List Int → Int → Int → Int → List Int → Option α) → Option α), f = fun α => @spec_l5Sub_J8.b α := ⟨_, rfl⟩
noncomputable def spec_l5Sub_J8 {α : Type} : Nat → List Int → List Int → Int → Int → Int → List Int → (List Int → List Int → Int → Int → Int → List Int → Option α) → Option α := Classical.choose spec_l5Sub_J8.ex α
theorem spec_l5Sub_J8.eq : @spec_l5Sub_J8 = @spec_l5Sub_J8.b := funext fun α => congrFun (Classical.choose_spec spec_l5Sub_J8.ex) α
noncomputable def spec_l5Sub_L0r {α : Type} (N : Nat) (next : List Int → List Int → Int → Int → List Int → Option α) (k0 : List Int → Option α) (v380 : List Int) (v381 : List Int) (v382 : Int) (v383 : Int) (v384 : List Int) : Option α :=
  let x385 := ((v380.length : Nat) : Int)
  let x386 := decide (v383 < x385)
  bif x386 then
    bif (decide (v383 < (0 : Int))) then
      none
    else
      match v380[v383.toNat]? with
      | some x387 =>
        spec_l5At N v381 v383
          (fun x388 =>
            let x389 := IntKind.i64.wrap (x387 - x388)
            let x390 := IntKind.i64.wrap (x389 - v382)
            spec_l5Sub_J8 N v380 v381 (0 : Int) v383 x390 v384
              (fun x399 x400 x401 x402 x403 x404 =>
                let x405 := [x403]
                bif decide (x404.length + x405.length ≤ 8796093022208) then
                  let x406 := x404 ++ x405
                  let x407 := (IntKind.i64.wrap (x402 + (1 : Int)))
                  next x399 x400 x401 x407 x406
                else
                  none))
      | none => none
  else
    k0 v384
noncomputable def spec_l5Sub_L0.b {α : Type} (N n : Nat) (v380 : List Int) (v381 : List Int) (v382 : Int) (v383 : Int) (v384 : List Int) (k0 : List Int → Option α) : Option α :=
  Nat.rec (motive := fun _ => List Int → List Int → Int → Int → List Int → Option α) (fun _ _ _ _ _ => none) (fun _ next => spec_l5Sub_L0r N next k0) n v380 v381 v382 v383 v384
theorem spec_l5Sub_L0.ex : ∃ f : ((α : Type) → Nat → Nat → List Int → List Int → Int → Int → List Int → (List Int → Option α) → Option α), f = fun α => @spec_l5Sub_L0.b α := ⟨_, rfl⟩
noncomputable def spec_l5Sub_L0 {α : Type} : Nat → Nat → List Int → List Int → Int → Int → List Int → (List Int → Option α) → Option α := Classical.choose spec_l5Sub_L0.ex α
theorem spec_l5Sub_L0.eq : @spec_l5Sub_L0 = @spec_l5Sub_L0.b := funext fun α => congrFun (Classical.choose_spec spec_l5Sub_L0.ex) α
theorem spec_l5Sub_L0.zero {α : Type} (N : Nat) (v380 : List Int) (v381 : List Int) (v382 : Int) (v383 : Int) (v384 : List Int) (k0 : List Int → Option α) : spec_l5Sub_L0 N 0 v380 v381 v382 v383 v384 k0 = none := by rw [spec_l5Sub_L0.eq]; rfl
theorem spec_l5Sub_L0.succ {α : Type} (N n : Nat) (v380 : List Int) (v381 : List Int) (v382 : Int) (v383 : Int) (v384 : List Int) (k0 : List Int → Option α) : spec_l5Sub_L0 N (n + 1) v380 v381 v382 v383 v384 k0 = spec_l5Sub_L0r N (fun y0 y1 y2 y3 y4 => spec_l5Sub_L0 N n y0 y1 y2 y3 y4 k0) k0 v380 v381 v382 v383 v384 := by rw [spec_l5Sub_L0.eq]; rfl
/-- loop.example/pinfold/spec.l5Sub -/
noncomputable def spec_l5Sub.b {α : Type} (N : Nat) (a378 : List Int) (a379 : List Int) (k0 : List Int → Option α) : Option α :=
  spec_l5Sub_L0 N N a378 a379 (0 : Int) (0 : Int) []
    (fun x408 =>
      spec_l5Trim N x408
        (fun x409 =>
          k0 x409))
theorem spec_l5Sub.ex : ∃ f : ((α : Type) → Nat → List Int → List Int → (List Int → Option α) → Option α), f = fun α => @spec_l5Sub.b α := ⟨_, rfl⟩
noncomputable def spec_l5Sub {α : Type} : Nat → List Int → List Int → (List Int → Option α) → Option α := Classical.choose spec_l5Sub.ex α
theorem spec_l5Sub.eq : @spec_l5Sub = @spec_l5Sub.b := funext fun α => congrFun (Classical.choose_spec spec_l5Sub.ex) α

noncomputable def spec_l5Div_J17.b {α : Type} (N : Nat) (v349 : Int) (v350 : Int) (v351 : Int) (v352 : Int) (v353 : List Int) (v354 : List Int) (v355 : List Int) (v356 : List Int) (k0 : Int → Int → Int → Int → List Int → List Int → List Int → List Int → Option α) : Option α :=
  let x357 := (decide ((65536 : Int) ≤ v352))
  bif x357 then
    k0 v349 v350 v351 (65535 : Int) v353 v354 v355 v356
  else
    k0 v349 v350 v351 v352 v353 v354 v355 v356
theorem spec_l5Div_J17.ex : ∃ f : ((α : Type) → Nat → Int → Int → Int → Int → List Int → List Int → List Int → List Int → (Int → Int → Int → Int → List Int → List Int → List Int → List Int → Option α) → Option α), f = fun α => @spec_l5Div_J17.b α := ⟨_, rfl⟩
noncomputable def spec_l5Div_J17 {α : Type} : Nat → Int → Int → Int → Int → List Int → List Int → List Int → List Int → (Int → Int → Int → Int → List Int → List Int → List Int → List Int → Option α) → Option α := Classical.choose spec_l5Div_J17.ex α
theorem spec_l5Div_J17.eq : @spec_l5Div_J17 = @spec_l5Div_J17.b := funext fun α => congrFun (Classical.choose_spec spec_l5Div_J17.ex) α
noncomputable def spec_l5Div_L2r {α : Type} (N : Nat) (next : Int → Int → Int → Int → List Int → List Int → List Int → List Int → List Int → Option α) (k0 : Int → Int → Int → Int → List Int → List Int → List Int → List Int → List Int → Option α) (v367 : Int) (v368 : Int) (v369 : Int) (v370 : Int) (v371 : List Int) (v372 : List Int) (v373 : List Int) (v374 : List Int) (v375 : List Int) : Option α :=
  spec_l5Cmp N v375 v374
    (fun x376 =>
      let x377 := (decide ((0 : Int) < x376))
      bif x377 then
        spec_l5Sub N v375 v372
          (fun x410 =>
            let x411 := (IntKind.i64.wrap (v370 - (1 : Int)))
            next v367 v368 v369 x411 v371 v372 v373 v374 x410)
      else
        k0 v367 v368 v369 v370 v371 v372 v373 v374 v375)
noncomputable def spec_l5Div_L2.b {α : Type} (N n : Nat) (v367 : Int) (v368 : Int) (v369 : Int) (v370 : Int) (v371 : List Int) (v372 : List Int) (v373 : List Int) (v374 : List Int) (v375 : List Int) (k0 : Int → Int → Int → Int → List Int → List Int → List Int → List Int → List Int → Option α) : Option α :=
  Nat.rec (motive := fun _ => Int → Int → Int → Int → List Int → List Int → List Int → List Int → List Int → Option α) (fun _ _ _ _ _ _ _ _ _ => none) (fun _ next => spec_l5Div_L2r N next k0) n v367 v368 v369 v370 v371 v372 v373 v374 v375
theorem spec_l5Div_L2.ex : ∃ f : ((α : Type) → Nat → Nat → Int → Int → Int → Int → List Int → List Int → List Int → List Int → List Int → (Int → Int → Int → Int → List Int → List Int → List Int → List Int → List Int → Option α) → Option α), f = fun α => @spec_l5Div_L2.b α := ⟨_, rfl⟩
noncomputable def spec_l5Div_L2 {α : Type} : Nat → Nat → Int → Int → Int → Int → List Int → List Int → List Int → List Int → List Int → (Int → Int → Int → Int → List Int → List Int → List Int → List Int → List Int → Option α) → Option α := Classical.choose spec_l5Div_L2.ex α
theorem spec_l5Div_L2.eq : @spec_l5Div_L2 = @spec_l5Div_L2.b := funext fun α => congrFun (Classical.choose_spec spec_l5Div_L2.ex) α
theorem spec_l5Div_L2.zero {α : Type} (N : Nat) (v367 : Int) (v368 : Int) (v369 : Int) (v370 : Int) (v371 : List Int) (v372 : List Int) (v373 : List Int) (v374 : List Int) (v375 : List Int) (k0 : Int → Int → Int → Int → List Int → List Int → List Int → List Int → List Int → Option α) : spec_l5Div_L2 N 0 v367 v368 v369 v370 v371 v372 v373 v374 v375 k0 = none := by rw [spec_l5Div_L2.eq]; rfl
theorem spec_l5Div_L2.succ {α : Type} (N n : Nat) (v367 : Int) (v368 : Int) (v369 : Int) (v370 : Int) (v371 : List Int) (v372 : List Int) (v373 : List Int) (v374 : List Int) (v375 : List Int) (k0 : Int → Int → Int → Int → List Int → List Int → List Int → List Int → List Int → Option α) : spec_l5Div_L2 N (n + 1) v367 v368 v369 v370 v371 v372 v373 v374 v375 k0 = spec_l5Div_L2r N (fun y0 y1 y2 y3 y4 y5 y6 y7 y8 => spec_l5Div_L2 N n y0 y1 y2 y3 y4 y5 y6 y7 y8 k0) k0 v367 v368 v369 v370 v371 v372 v373 v374 v375 := by rw [spec_l5Div_L2.eq]; rfl
noncomputable def spec_l5Div_L0r {α : Type} (N : Nat) (next : Int → Int → Int → List Int → List Int → List Int → List Int → Option α) (k0 : Int → List Int → List Int → Option α) (v271 : Int) (v272 : Int) (v273 : Int) (v274 : List Int) (v275 : List Int) (v276 : List Int) (v277 : List Int) : Option α :=
  let x278 := (decide ((0 : Int) ≤ v273))
  bif x278 then
    spec_l5Shl N v277 (1 : Int)
      (fun x294 =>
        bif (decide (v273 < (0 : Int))) then
          none
        else
          bif decide (v273.toNat < v274.length) then
            match v274[v273.toNat]? with
            | some x295 =>
              let x296 := IntKind.u64.wrap x295
              spec_NatOf N x296
                (fun x297 =>
                  spec_l5Add N x294 x297
                    (fun x339 =>
                      spec_l5Trim N x339
                        (fun x340 =>
                          spec_l5At N x340 v272
                            (fun x341 =>
                              let x342 := (IntKind.i64.wrap (x341 * (65536 : Int)))
                              let x343 := (IntKind.i64.wrap (v272 - (1 : Int)))
                              spec_l5At N x340 x343
                                (fun x344 =>
                                  let x345 := IntKind.i64.wrap (x342 + x344)
                                  let x346 := (IntKind.i64.wrap (v272 - (1 : Int)))
                                  bif (decide (x346 < (0 : Int))) then
                                    none
                                  else
                                    bif decide (x346.toNat < v275.length) then
                                      match v275[x346.toNat]? with
                                      | some x347 =>
                                        bif (decide (x347 = (0 : Int))) then
                                          none
                                        else
                                          let x348 := IntKind.i64.wrap (Int.tdiv x345 x347)
                                          spec_l5Div_J17 N v271 v272 v273 x348 v274 v275 v276 x340
                                            (fun x358 x359 x360 x361 x362 x363 x364 x365 =>
                                              spec_l5Times N x363 x361
                                                (fun x366 =>
                                                  spec_l5Div_L2 N N x358 x359 x360 x361 x362 x363 x364 x365 x366
                                                    (fun x412 x413 x414 x415 x416 x417 x418 x419 x420 =>
                                                      bif (decide (x414 < (0 : Int))) then
                                                        none
                                                      else
                                                        bif decide (x414.toNat < x418.length) then
                                                          match x418[x414.toNat]? with
                                                          | some x421 =>
                                                            let x422 := x418.set x414.toNat x415
                                                            spec_l5Sub N x419 x420
                                                              (fun x423 =>
                                                                let x424 := (IntKind.i64.wrap (x414 - (1 : Int)))
                                                                next x412 x413 x424 x416 x417 x422 x423)
                                                          | none => none
                                                        else
                                                          none)))
                                      | none => none
                                    else
                                      none)))))
            | none => none
          else
            none)
  else
    k0 v271 v276 v277
noncomputable def spec_l5Div_L0.b {α : Type} (N n : Nat) (v271 : Int) (v272 : Int) (v273 : Int) (v274 : List Int) (v275 : List Int) (v276 : List Int) (v277 : List Int) (k0 : Int → List Int → List Int → Option α) : Option α :=
  Nat.rec (motive := fun _ => Int → Int → Int → List Int → List Int → List Int → List Int → Option α) (fun _ _ _ _ _ _ _ => none) (fun _ next => spec_l5Div_L0r N next k0) n v271 v272 v273 v274 v275 v276 v277
theorem spec_l5Div_L0.ex : ∃ f : ((α : Type) → Nat → Nat → Int → Int → Int → List Int → List Int → List Int → List Int → (Int → List Int → List Int → Option α) → Option α), f = fun α => @spec_l5Div_L0.b α := ⟨_, rfl⟩
noncomputable def spec_l5Div_L0 {α : Type} : Nat → Nat → Int → Int → Int → List Int → List Int → List Int → List Int → (Int → List Int → List Int → Option α) → Option α := Classical.choose spec_l5Div_L0.ex α
theorem spec_l5Div_L0.eq : @spec_l5Div_L0 = @spec_l5Div_L0.b := funext fun α => congrFun (Classical.choose_spec spec_l5Div_L0.ex) α
theorem spec_l5Div_L0.zero {α : Type} (N : Nat) (v271 : Int) (v272 : Int) (v273 : Int) (v274 : List Int) (v275 : List Int) (v276 : List Int) (v277 : List Int) (k0 : Int → List Int → List Int → Option α) : spec_l5Div_L0 N 0 v271 v272 v273 v274 v275 v276 v277 k0 = none := by rw [spec_l5Div_L0.eq]; rfl
theorem spec_l5Div_L0.succ {α : Type} (N n : Nat) (v271 : Int) (v272 : Int) (v273 : Int) (v274 : List Int) (v275 : List Int) (v276 : List Int) (v277 : List Int) (k0 : Int → List Int → List Int → Option α) : spec_l5Div_L0 N (n + 1) v271 v272 v273 v274 v275 v276 v277 k0 = spec_l5Div_L0r N (fun y0 y1 y2 y3 y4 y5 y6 => spec_l5Div_L0 N n y0 y1 y2 y3 y4 y5 y6 k0) k0 v271 v272 v273 v274 v275 v276 v277 := by rw [spec_l5Div_L0.eq]; rfl
/-- loop.example/pinfold/spec.l5Div -/
noncomputable def spec_l5Div.b {α : Type} (N : Nat) (a124 : List Int) (a125 : List Int) (k0 : List Int → List Int → Option α) : Option α :=
  spec_l5Cmp N a124 a125
    (fun x148 =>
      let x149 := (decide (x148 < (0 : Int)))
      bif x149 then
        spec_l5Trim N a124
          (fun x150 =>
            k0 [] x150)
      else
        let x151 := ((a125.length : Nat) : Int)
        let x152 := (decide (x151 = (1 : Int)))
        bif x152 then
          match a125[0]? with
          | some x153 =>
            spec_l5DivSmall N a124 x153
              (fun x177 x178 =>
                let x179 := IntKind.u64.wrap x177
                spec_NatOf N x179
                  (fun x190 =>
                    k0 x178 x190))
          | none => none
        else
          let x191 := ((a125.length : Nat) : Int)
          let x192 := (IntKind.i64.wrap (x191 - (1 : Int)))
          bif (decide (x192 < (0 : Int))) then
            none
          else
            match a125[x192.toNat]? with
            | some x193 =>
              let x194 := (IntKind.i64.wrap (x193 + (1 : Int)))
              bif (decide (x194 = (0 : Int))) then
                none
              else
                let x195 := (IntKind.i64.wrap (Int.tdiv (65536 : Int) x194))
                spec_l5Times N a124 x195
                  (fun x246 =>
                    spec_l5Times N a125 x195
                      (fun x247 =>
                        let x248 := ((x247.length : Nat) : Int)
                        let x249 := ((x246.length : Nat) : Int)
                        let x250 := IntKind.i64.wrap (x249 - x248)
                        let x251 := (IntKind.i64.wrap (x250 + (1 : Int)))
                        bif (decide ((0 : Int) ≤ x251)) then
                          bif decide (x251 ≤ x251) then
                            bif (decide (x251 ≤ ((8796093022208 : Nat) : Int))) then
                              let x252 := (List.replicate x251.toNat (0 : Int))
                              let x253 := ((x246.length : Nat) : Int)
                              let x254 := IntKind.i64.wrap (x253 - x248)
                              let x255 := (IntKind.i64.wrap (x254 + (1 : Int)))
                              spec_l5Top N x246 x255
                                (fun x268 =>
                                  let x269 := ((x246.length : Nat) : Int)
                                  let x270 := IntKind.i64.wrap (x269 - x248)
                                  spec_l5Div_L0 N N x195 x248 x270 x246 x247 x252 x268
                                    (fun x425 x426 x427 =>
                                      spec_l5DivSmall N x427 x425
                                        (fun _ x429 =>
                                          spec_l5Trim N x426
                                            (fun x430 =>
                                              k0 x430 x429))))
                            else
                              none
                          else
                            none
                        else
                          none))
            | none => none)
theorem spec_l5Div.ex : ∃ f : ((α : Type) → Nat → List Int → List Int → (List Int → List Int → Option α) → Option α), f = fun α => @spec_l5Div.b α := ⟨_, rfl⟩
noncomputable def spec_l5Div {α : Type} : Nat → List Int → List Int → (List Int → List Int → Option α) → Option α := Classical.choose spec_l5Div.ex α
theorem spec_l5Div.eq : @spec_l5Div = @spec_l5Div.b := funext fun α => congrFun (Classical.choose_spec spec_l5Div.ex) α

noncomputable def spec_l5Gcd_L0r {α : Type} (N : Nat) (next : List Int → List Int → Option α) (k0 : List Int → Option α) (v120 : List Int) (v121 : List Int) : Option α :=
  let x122 := ((v121.length : Nat) : Int)
  let x123 := (decide ((0 : Int) < x122))
  bif x123 then
    spec_l5Div N v120 v121
      (fun _ x432 =>
        next v121 x432)
  else
    k0 v120
noncomputable def spec_l5Gcd_L0.b {α : Type} (N n : Nat) (v120 : List Int) (v121 : List Int) (k0 : List Int → Option α) : Option α :=
  Nat.rec (motive := fun _ => List Int → List Int → Option α) (fun _ _ => none) (fun _ next => spec_l5Gcd_L0r N next k0) n v120 v121
theorem spec_l5Gcd_L0.ex : ∃ f : ((α : Type) → Nat → Nat → List Int → List Int → (List Int → Option α) → Option α), f = fun α => @spec_l5Gcd_L0.b α := ⟨_, rfl⟩
noncomputable def spec_l5Gcd_L0 {α : Type} : Nat → Nat → List Int → List Int → (List Int → Option α) → Option α := Classical.choose spec_l5Gcd_L0.ex α
theorem spec_l5Gcd_L0.eq : @spec_l5Gcd_L0 = @spec_l5Gcd_L0.b := funext fun α => congrFun (Classical.choose_spec spec_l5Gcd_L0.ex) α
theorem spec_l5Gcd_L0.zero {α : Type} (N : Nat) (v120 : List Int) (v121 : List Int) (k0 : List Int → Option α) : spec_l5Gcd_L0 N 0 v120 v121 k0 = none := by rw [spec_l5Gcd_L0.eq]; rfl
theorem spec_l5Gcd_L0.succ {α : Type} (N n : Nat) (v120 : List Int) (v121 : List Int) (k0 : List Int → Option α) : spec_l5Gcd_L0 N (n + 1) v120 v121 k0 = spec_l5Gcd_L0r N (fun y0 y1 => spec_l5Gcd_L0 N n y0 y1 k0) k0 v120 v121 := by rw [spec_l5Gcd_L0.eq]; rfl
/-- loop.example/pinfold/spec.l5Gcd -/
noncomputable def spec_l5Gcd.b {α : Type} (N : Nat) (a95 : List Int) (a96 : List Int) (k0 : List Int → Option α) : Option α :=
  spec_l5Trim N a95
    (fun x118 =>
      spec_l5Trim N a96
        (fun x119 =>
          spec_l5Gcd_L0 N N x118 x119
            (fun x433 =>
              k0 x433)))
theorem spec_l5Gcd.ex : ∃ f : ((α : Type) → Nat → List Int → List Int → (List Int → Option α) → Option α), f = fun α => @spec_l5Gcd.b α := ⟨_, rfl⟩
noncomputable def spec_l5Gcd {α : Type} : Nat → List Int → List Int → (List Int → Option α) → Option α := Classical.choose spec_l5Gcd.ex α
theorem spec_l5Gcd.eq : @spec_l5Gcd = @spec_l5Gcd.b := funext fun α => congrFun (Classical.choose_spec spec_l5Gcd.ex) α

/-- loop.example/pinfold/spec.l6One -/
noncomputable def spec_l6One.b {α : Type} (N : Nat) (a435 : List Int) (k0 : Bool → Option α) : Option α :=
  let x436 := ((a435.length : Nat) : Int)
  let x437 := (decide (x436 = (1 : Int)))
  bif x437 then
    match a435[0]? with
    | some x438 =>
      let x439 := (decide (x438 = (1 : Int)))
      k0 x439
    | none => none
  else
    k0 false
theorem spec_l6One.ex : ∃ f : ((α : Type) → Nat → List Int → (Bool → Option α) → Option α), f = fun α => @spec_l6One.b α := ⟨_, rfl⟩
noncomputable def spec_l6One {α : Type} : Nat → List Int → (Bool → Option α) → Option α := Classical.choose spec_l6One.ex α
theorem spec_l6One.eq : @spec_l6One = @spec_l6One.b := funext fun α => congrFun (Classical.choose_spec spec_l6One.ex) α

/-- loop.example/pinfold/spec.FracOk -/
noncomputable def spec_FracOk.b {α : Type} (N : Nat) (a66 : Bool × (List Int) × (List Int) × Unit) (k0 : Bool → Option α) : Option α :=
  spec_NatOk N a66.2.1
    (fun x87 =>
      let x88 := !x87
      bif x88 then
        k0 false
      else
        spec_NatOk N a66.2.2.1
          (fun x89 =>
            let x90 := !x89
            bif x90 then
              k0 false
            else
              let x91 := ((a66.2.2.1.length : Nat) : Int)
              let x92 := (decide (x91 = (0 : Int)))
              bif x92 then
                k0 false
              else
                let x93 := ((a66.2.1.length : Nat) : Int)
                let x94 := (decide (x93 = (0 : Int)))
                bif x94 then
                  bif a66.1 then
                    k0 false
                  else
                    spec_l5Gcd N a66.2.1 a66.2.2.1
                      (fun x434 =>
                        spec_l6One N x434
                          (fun x440 =>
                            k0 x440))
                else
                  spec_l5Gcd N a66.2.1 a66.2.2.1
                    (fun x441 =>
                      spec_l6One N x441
                        (fun x442 =>
                          k0 x442))))
theorem spec_FracOk.ex : ∃ f : ((α : Type) → Nat → (Bool × (List Int) × (List Int) × Unit) → (Bool → Option α) → Option α), f = fun α => @spec_FracOk.b α := ⟨_, rfl⟩
noncomputable def spec_FracOk {α : Type} : Nat → (Bool × (List Int) × (List Int) × Unit) → (Bool → Option α) → Option α := Classical.choose spec_FracOk.ex α
theorem spec_FracOk.eq : @spec_FracOk = @spec_FracOk.b := funext fun α => congrFun (Classical.choose_spec spec_FracOk.ex) α

/-- loop.example/pinfold/spec.l8Frac -/
noncomputable def spec_l8Frac.b {α : Type} (N : Nat) (a449 : Bool × (List Int) × (List Int) × Unit) (k0 : (Bool × (List Int) × (List Int) × Unit) → Option α) : Option α :=
  k0 (a449.1, (a449.2.1, (a449.2.2.1, ())))
theorem spec_l8Frac.ex : ∃ f : ((α : Type) → Nat → (Bool × (List Int) × (List Int) × Unit) → ((Bool × (List Int) × (List Int) × Unit) → Option α) → Option α), f = fun α => @spec_l8Frac.b α := ⟨_, rfl⟩
noncomputable def spec_l8Frac {α : Type} : Nat → (Bool × (List Int) × (List Int) × Unit) → ((Bool × (List Int) × (List Int) × Unit) → Option α) → Option α := Classical.choose spec_l8Frac.ex α
theorem spec_l8Frac.eq : @spec_l8Frac = @spec_l8Frac.b := funext fun α => congrFun (Classical.choose_spec spec_l8Frac.ex) α

/-- loop.example/pinfold/spec.l1Least -/
noncomputable def spec_l1Least.b {α : Type} (N : Nat) (a463 : Int) (k0 : Int → Option α) : Option α :=
  let x464 := (decide (a463 = (32 : Int)))
  bif x464 then
    k0 (-149 : Int)
  else
    k0 (-1074 : Int)
theorem spec_l1Least.ex : ∃ f : ((α : Type) → Nat → Int → (Int → Option α) → Option α), f = fun α => @spec_l1Least.b α := ⟨_, rfl⟩
noncomputable def spec_l1Least {α : Type} : Nat → Int → (Int → Option α) → Option α := Classical.choose spec_l1Least.ex α
theorem spec_l1Least.eq : @spec_l1Least = @spec_l1Least.b := funext fun α => congrFun (Classical.choose_spec spec_l1Least.ex) α

/-- loop.example/pinfold/spec.l1Frac -/
noncomputable def spec_l1Frac.b {α : Type} (N : Nat) (a476 : Int) (k0 : Int → Option α) : Option α :=
  let x477 := (decide (a476 = (32 : Int)))
  bif x477 then
    k0 (23 : Int)
  else
    k0 (52 : Int)
theorem spec_l1Frac.ex : ∃ f : ((α : Type) → Nat → Int → (Int → Option α) → Option α), f = fun α => @spec_l1Frac.b α := ⟨_, rfl⟩
noncomputable def spec_l1Frac {α : Type} : Nat → Int → (Int → Option α) → Option α := Classical.choose spec_l1Frac.ex α
theorem spec_l1Frac.eq : @spec_l1Frac = @spec_l1Frac.b := funext fun α => congrFun (Classical.choose_spec spec_l1Frac.ex) α

noncomputable def spec_BitPartOf_J5.b {α : Type} (N : Nat) (v466 : Int) (v467 : Int) (v468 : Bool × Int × Int × Unit) (v469 : Bool × Int × Int × Unit) (k0 : Int → Int → (Bool × Int × Int × Unit) → (Bool × Int × Int × Unit) → Option α) : Option α :=
  let x470 := (decide (v467 < (0 : Int)))
  bif x470 then
    let x471 := IntKind.i64.wrap (0 - v467)
    k0 v466 x471 v468 v469
  else
    k0 v466 v467 v468 v469
theorem spec_BitPartOf_J5.ex : ∃ f : ((α : Type) → Nat → Int → Int → (Bool × Int × Int × Unit) → (Bool × Int × Int × Unit) → (Int → Int → (Bool × Int × Int × Unit) → (Bool × Int × Int × Unit) → Option α) → Option α), f = fun α => @spec_BitPartOf_J5.b α := ⟨_, rfl⟩
noncomputable def spec_BitPartOf_J5 {α : Type} : Nat → Int → Int → (Bool × Int × Int × Unit) → (Bool × Int × Int × Unit) → (Int → Int → (Bool × Int × Int × Unit) → (Bool × Int × Int × Unit) → Option α) → Option α := Classical.choose spec_BitPartOf_J5.ex α
theorem spec_BitPartOf_J5.eq : @spec_BitPartOf_J5 = @spec_BitPartOf_J5.b := funext fun α => congrFun (Classical.choose_spec spec_BitPartOf_J5.ex) α
noncomputable def spec_BitPartOf_J10.b {α : Type} (N : Nat) (v484 : Int) (v485 : Int) (v486 : Bool × Int × Int × Unit) (v487 : Bool × Int × Int × Unit) (k0 : (Bool × Int × Int × Unit) → (Bool × Int × Int × Unit) → Option α) : Option α :=
  let x488 := (decide ((0 : Int) < v485))
  bif x488 then
    let x489 := IntKind.u64.wrap v484
    let x490 := IntKind.u64.wrap (v487.2.1 + x489)
    let x491 := IntKind.i64.wrap (v487.2.2.1 + v485)
    let x492 := (IntKind.i64.wrap (x491 - (1 : Int)))
    k0 v486 (v487.1, (x490, (x492, ())))
  else
    k0 v486 v487
theorem spec_BitPartOf_J10.ex : ∃ f : ((α : Type) → Nat → Int → Int → (Bool × Int × Int × Unit) → (Bool × Int × Int × Unit) → ((Bool × Int × Int × Unit) → (Bool × Int × Int × Unit) → Option α) → Option α), f = fun α => @spec_BitPartOf_J10.b α := ⟨_, rfl⟩
noncomputable def spec_BitPartOf_J10 {α : Type} : Nat → Int → Int → (Bool × Int × Int × Unit) → (Bool × Int × Int × Unit) → ((Bool × Int × Int × Unit) → (Bool × Int × Int × Unit) → Option α) → Option α := Classical.choose spec_BitPartOf_J10.ex α
theorem spec_BitPartOf_J10.eq : @spec_BitPartOf_J10 = @spec_BitPartOf_J10.b := funext fun α => congrFun (Classical.choose_spec spec_BitPartOf_J10.ex) α
/-- loop.example/pinfold/spec.BitPartOf -/
noncomputable def spec_BitPartOf.b {α : Type} (N : Nat) (a453 : Int) (a454 : Int) (k0 : (Bool × Int × Int × Unit) → Bool → Option α) : Option α :=
  spec_BitOk N a453 a454
    (fun x455 =>
      let x456 := !x455
      bif x456 then
        k0 (false, ((0 : Int), ((0 : Int), ()))) false
      else
        spec_BitTop N a453
          (fun x457 =>
            let x458 := decide (a454 = x457)
            bif x458 then
              k0 (false, ((0 : Int), ((0 : Int), ()))) false
            else
              spec_BitTop N a453
                (fun x459 =>
                  let x460 := IntKind.i64.wrap (0 - x459)
                  let x461 := decide (a454 = x460)
                  bif x461 then
                    k0 (false, ((0 : Int), ((0 : Int), ()))) false
                  else
                    let x462 := (decide (a454 < (0 : Int)))
                    spec_l1Least N a453
                      (fun x465 =>
                        spec_BitPartOf_J5 N a453 a454 (false, ((0 : Int), ((0 : Int), ()))) (x462, ((0 : Int), (x465, ())))
                          (fun x472 x473 x474 x475 =>
                            spec_l1Frac N x472
                              (fun x478 =>
                                let x479 := IntKind.u64.wrap x478
                                bif (decide (x479 < (0 : Int))) then
                                  none
                                else
                                  let x480 := (shlI .i64 (1 : Int) x479)
                                  bif (decide (x480 = (0 : Int))) then
                                    none
                                  else
                                    let x481 := IntKind.i64.wrap (Int.tdiv x473 x480)
                                    bif (decide (x480 = (0 : Int))) then
                                      none
                                    else
                                      let x482 := Int.tmod x473 x480
                                      let x483 := IntKind.u64.wrap x482
                                      spec_BitPartOf_J10 N x480 x481 x474 (x475.1, (x483, (x475.2.2.1, ())))
                                        (fun _ x494 =>
                                          k0 x494 true)))))))
theorem spec_BitPartOf.ex : ∃ f : ((α : Type) → Nat → Int → Int → ((Bool × Int × Int × Unit) → Bool → Option α) → Option α), f = fun α => @spec_BitPartOf.b α := ⟨_, rfl⟩
noncomputable def spec_BitPartOf {α : Type} : Nat → Int → Int → ((Bool × Int × Int × Unit) → Bool → Option α) → Option α := Classical.choose spec_BitPartOf.ex α
theorem spec_BitPartOf.eq : @spec_BitPartOf = @spec_BitPartOf.b := funext fun α => congrFun (Classical.choose_spec spec_BitPartOf.ex) α

/-- loop.example/pinfold/spec.l5Pow2 -/
noncomputable def spec_l5Pow2.b {α : Type} (N : Nat) (a507 : Int) (k0 : List Int → Option α) : Option α :=
  let x508 := (Int.tmod a507 (16 : Int))
  let x509 := IntKind.u64.wrap x508
  bif (decide (x509 < (0 : Int))) then
    none
  else
    let x510 := (shlI .i64 (1 : Int) x509)
    let x511 := [x510]
    let x512 := (IntKind.i64.wrap (Int.tdiv a507 (16 : Int)))
    spec_l5Shl N x511 x512
      (fun x513 =>
        k0 x513)
theorem spec_l5Pow2.ex : ∃ f : ((α : Type) → Nat → Int → (List Int → Option α) → Option α), f = fun α => @spec_l5Pow2.b α := ⟨_, rfl⟩
noncomputable def spec_l5Pow2 {α : Type} : Nat → Int → (List Int → Option α) → Option α := Classical.choose spec_l5Pow2.ex α
theorem spec_l5Pow2.eq : @spec_l5Pow2 = @spec_l5Pow2.b := funext fun α => congrFun (Classical.choose_spec spec_l5Pow2.ex) α

noncomputable def spec_l8Of_J3.b {α : Type} (N : Nat) (v499 : Bool) (v500 : Bool × Int × Int × Unit) (v501 : Bool) (v502 : List Int) (v503 : List Int) (v504 : List Int) (v505 : List Int) (k0 : Bool → Bool → List Int → List Int → List Int → List Int → Option α) : Option α :=
  let x506 := (decide ((0 : Int) ≤ v500.2.2.1))
  bif x506 then
    spec_l5Pow2 N v500.2.2.1
      (fun x514 =>
        spec_l5Mul N v504 x514
          (fun x515 =>
            k0 v499 v501 v502 v503 x515 v505))
  else
    let x516 := IntKind.i64.wrap (0 - v500.2.2.1)
    spec_l5Pow2 N x516
      (fun x517 =>
        k0 v499 v501 v502 v503 v504 x517)
theorem spec_l8Of_J3.ex : ∃ f : ((α : Type) → Nat → Bool → (Bool × Int × Int × Unit) → Bool → List Int → List Int → List Int → List Int → (Bool → Bool → List Int → List Int → List Int → List Int → Option α) → Option α), f = fun α => @spec_l8Of_J3.b α := ⟨_, rfl⟩
noncomputable def spec_l8Of_J3 {α : Type} : Nat → Bool → (Bool × Int × Int × Unit) → Bool → List Int → List Int → List Int → List Int → (Bool → Bool → List Int → List Int → List Int → List Int → Option α) → Option α := Classical.choose spec_l8Of_J3.ex α
theorem spec_l8Of_J3.eq : @spec_l8Of_J3 = @spec_l8Of_J3.b := funext fun α => congrFun (Classical.choose_spec spec_l8Of_J3.ex) α
/-- loop.example/pinfold/spec.l8Of -/
noncomputable def spec_l8Of.b {α : Type} (N : Nat) (a451 : Int) (a452 : Int) (k0 : Bool → List Int → List Int → Option α) : Option α :=
  spec_BitPartOf N a451 a452
    (fun x495 _ =>
      spec_NatOf N x495.2.1
        (fun x497 =>
          let x498 := [(1 : Int)]
          spec_l8Of_J3 N false x495 x495.1 [] [] x497 x498
            (fun _ x519 _ _ x522 x523 =>
              k0 x519 x522 x523)))
theorem spec_l8Of.ex : ∃ f : ((α : Type) → Nat → Int → Int → (Bool → List Int → List Int → Option α) → Option α), f = fun α => @spec_l8Of.b α := ⟨_, rfl⟩
noncomputable def spec_l8Of {α : Type} : Nat → Int → Int → (Bool → List Int → List Int → Option α) → Option α := Classical.choose spec_l8Of.ex α
theorem spec_l8Of.eq : @spec_l8Of = @spec_l8Of.b := funext fun α => congrFun (Classical.choose_spec spec_l8Of.ex) α

/-- loop.example/pinfold/spec.l8Cmp -/
noncomputable def spec_l8Cmp.b {α : Type} (N : Nat) (a527 : Bool × (List Int) × (List Int) × Unit) (a528 : Bool × (List Int) × (List Int) × Unit) (k0 : Int → Option α) : Option α :=
  spec_l5Mul N a527.2.1 a528.2.2.1
    (fun x529 =>
      spec_l5Mul N a528.2.1 a527.2.2.1
        (fun x530 =>
          let x531 := ((x529.length : Nat) : Int)
          let x532 := (decide (x531 = (0 : Int)))
          bif x532 then
            let x533 := ((x530.length : Nat) : Int)
            let x534 := (decide (x533 = (0 : Int)))
            bif x534 then
              k0 (0 : Int)
            else
              bif a527.1 then
                let x535 := ((x529.length : Nat) : Int)
                let x536 := (decide ((0 : Int) < x535))
                bif x536 then
                  bif a528.1 then
                    let x537 := ((x530.length : Nat) : Int)
                    let x538 := (decide ((0 : Int) < x537))
                    bif x538 then
                      spec_l5Cmp N x530 x529
                        (fun x539 =>
                          k0 x539)
                    else
                      k0 (-1 : Int)
                  else
                    k0 (-1 : Int)
                else
                  bif a528.1 then
                    let x540 := ((x530.length : Nat) : Int)
                    let x541 := (decide ((0 : Int) < x540))
                    bif x541 then
                      k0 (1 : Int)
                    else
                      spec_l5Cmp N x529 x530
                        (fun x542 =>
                          k0 x542)
                  else
                    spec_l5Cmp N x529 x530
                      (fun x543 =>
                        k0 x543)
              else
                bif a528.1 then
                  let x544 := ((x530.length : Nat) : Int)
                  let x545 := (decide ((0 : Int) < x544))
                  bif x545 then
                    k0 (1 : Int)
                  else
                    spec_l5Cmp N x529 x530
                      (fun x546 =>
                        k0 x546)
                else
                  spec_l5Cmp N x529 x530
                    (fun x547 =>
                      k0 x547)
          else
            bif a527.1 then
              let x548 := ((x529.length : Nat) : Int)
              let x549 := (decide ((0 : Int) < x548))
              bif x549 then
                bif a528.1 then
                  let x550 := ((x530.length : Nat) : Int)
                  let x551 := (decide ((0 : Int) < x550))
                  bif x551 then
                    spec_l5Cmp N x530 x529
                      (fun x552 =>
                        k0 x552)
                  else
                    k0 (-1 : Int)
                else
                  k0 (-1 : Int)
              else
                bif a528.1 then
                  let x553 := ((x530.length : Nat) : Int)
                  let x554 := (decide ((0 : Int) < x553))
                  bif x554 then
                    k0 (1 : Int)
                  else
                    spec_l5Cmp N x529 x530
                      (fun x555 =>
                        k0 x555)
                else
                  spec_l5Cmp N x529 x530
                    (fun x556 =>
                      k0 x556)
            else
              bif a528.1 then
                let x557 := ((x530.length : Nat) : Int)
                let x558 := (decide ((0 : Int) < x557))
                bif x558 then
                  k0 (1 : Int)
                else
                  spec_l5Cmp N x529 x530
                    (fun x559 =>
                      k0 x559)
              else
                spec_l5Cmp N x529 x530
                  (fun x560 =>
                    k0 x560)))
theorem spec_l8Cmp.ex : ∃ f : ((α : Type) → Nat → (Bool × (List Int) × (List Int) × Unit) → (Bool × (List Int) × (List Int) × Unit) → (Int → Option α) → Option α), f = fun α => @spec_l8Cmp.b α := ⟨_, rfl⟩
noncomputable def spec_l8Cmp {α : Type} : Nat → (Bool × (List Int) × (List Int) × Unit) → (Bool × (List Int) × (List Int) × Unit) → (Int → Option α) → Option α := Classical.choose spec_l8Cmp.ex α
theorem spec_l8Cmp.eq : @spec_l8Cmp = @spec_l8Cmp.b := funext fun α => congrFun (Classical.choose_spec spec_l8Cmp.ex) α

/-- loop.example/pinfold/spec.PairHas -/
noncomputable def spec_PairHas.b {α : Type} (N : Nat) (a38 : Int) (a39 : Int × Int × Unit) (a40 : Bool × (List Int) × (List Int) × Unit) (k0 : Bool → Option α) : Option α :=
  spec_PairOk N a38 a39
    (fun x64 =>
      let x65 := !x64
      bif x65 then
        k0 false
      else
        spec_FracOk N a40
          (fun x443 =>
            let x444 := !x443
            bif x444 then
              k0 false
            else
              spec_BitTop N a38
                (fun x445 =>
                  let x446 := IntKind.i64.wrap (0 - x445)
                  let x447 := decide (a39.1 = x446)
                  bif x447 then
                    let x448 := decide (a39.2.1 = x445)
                    bif x448 then
                      k0 true
                    else
                      spec_l8Frac N a40
                        (fun x450 =>
                          spec_l8Of N a38 a39.2.1
                            (fun x524 x525 x526 =>
                              spec_l8Cmp N x450 (x524, (x525, (x526, ())))
                                (fun x561 =>
                                  let x562 := (decide (x561 ≤ (0 : Int)))
                                  k0 x562)))
                  else
                    spec_l8Of N a38 a39.1
                      (fun x563 x564 x565 =>
                        spec_l8Frac N a40
                          (fun x566 =>
                            spec_l8Cmp N (x563, (x564, (x565, ()))) x566
                              (fun x567 =>
                                let x568 := (decide (x567 ≤ (0 : Int)))
                                bif x568 then
                                  let x569 := decide (a39.2.1 = x445)
                                  bif x569 then
                                    k0 true
                                  else
                                    spec_l8Frac N a40
                                      (fun x570 =>
                                        spec_l8Of N a38 a39.2.1
                                          (fun x571 x572 x573 =>
                                            spec_l8Cmp N x570 (x571, (x572, (x573, ())))
                                              (fun x574 =>
                                                let x575 := (decide (x574 ≤ (0 : Int)))
                                                k0 x575)))
                                else
                                  k0 false))))))
theorem spec_PairHas.ex : ∃ f : ((α : Type) → Nat → Int → (Int × Int × Unit) → (Bool × (List Int) × (List Int) × Unit) → (Bool → Option α) → Option α), f = fun α => @spec_PairHas.b α := ⟨_, rfl⟩
noncomputable def spec_PairHas {α : Type} : Nat → Int → (Int × Int × Unit) → (Bool × (List Int) × (List Int) × Unit) → (Bool → Option α) → Option α := Classical.choose spec_PairHas.ex α
theorem spec_PairHas.eq : @spec_PairHas = @spec_PairHas.b := funext fun α => congrFun (Classical.choose_spec spec_PairHas.ex) α

/-- loop.example/pinfold/impl.formatOf -/
noncomputable def impl_formatOf.b {α : Type} (N : Nat) (a585 : Int) (k0 : (Int × Int × Int × Int × Unit) → Bool → Option α) : Option α :=
  let x586 := (decide (a585 = (32 : Int)))
  bif x586 then
    k0 ((23 : Int), ((-149 : Int), ((127 : Int), ((2139095040 : Int), ())))) true
  else
    let x587 := (decide (a585 = (64 : Int)))
    bif x587 then
      k0 ((52 : Int), ((-1074 : Int), ((1023 : Int), ((9218868437227405312 : Int), ())))) true
    else
      k0 ((0 : Int), ((0 : Int), ((0 : Int), ((0 : Int), ())))) false
theorem impl_formatOf.ex : ∃ f : ((α : Type) → Nat → Int → ((Int × Int × Int × Int × Unit) → Bool → Option α) → Option α), f = fun α => @impl_formatOf.b α := ⟨_, rfl⟩
noncomputable def impl_formatOf {α : Type} : Nat → Int → ((Int × Int × Int × Int × Unit) → Bool → Option α) → Option α := Classical.choose impl_formatOf.ex α
theorem impl_formatOf.eq : @impl_formatOf = @impl_formatOf.b := funext fun α => congrFun (Classical.choose_spec impl_formatOf.ex) α

/-- loop.example/pinfold/impl.BitTop -/
noncomputable def impl_BitTop.b {α : Type} (N : Nat) (a584 : Int) (k0 : Int → Option α) : Option α :=
  impl_formatOf N a584
    (fun x588 _ =>
      k0 x588.2.2.2.1)
theorem impl_BitTop.ex : ∃ f : ((α : Type) → Nat → Int → (Int → Option α) → Option α), f = fun α => @impl_BitTop.b α := ⟨_, rfl⟩
noncomputable def impl_BitTop {α : Type} : Nat → Int → (Int → Option α) → Option α := Classical.choose impl_BitTop.ex α
theorem impl_BitTop.eq : @impl_BitTop = @impl_BitTop.b := funext fun α => congrFun (Classical.choose_spec impl_BitTop.ex) α

/-- loop.example/pinfold/impl.in -/
noncomputable def impl_in.b {α : Type} (N : Nat) (a599 : Int) (a600 : Int) (a601 : Int) (k0 : Bool → Option α) : Option α :=
  let x602 := decide (a600 ≤ a599)
  bif x602 then
    let x603 := decide (a599 ≤ a601)
    k0 x603
  else
    k0 false
theorem impl_in.ex : ∃ f : ((α : Type) → Nat → Int → Int → Int → (Bool → Option α) → Option α), f = fun α => @impl_in.b α := ⟨_, rfl⟩
noncomputable def impl_in {α : Type} : Nat → Int → Int → Int → (Bool → Option α) → Option α := Classical.choose impl_in.ex α
theorem impl_in.eq : @impl_in = @impl_in.b := funext fun α => congrFun (Classical.choose_spec impl_in.ex) α

/-- loop.example/pinfold/impl.BitOk -/
noncomputable def impl_BitOk.b {α : Type} (N : Nat) (a594 : Int) (a595 : Int) (k0 : Bool → Option α) : Option α :=
  impl_formatOf N a594
    (fun x596 x597 =>
      bif x597 then
        let x598 := IntKind.i64.wrap (0 - x596.2.2.2.1)
        impl_in N a595 x598 x596.2.2.2.1
          (fun x604 =>
            k0 x604)
      else
        k0 false)
theorem impl_BitOk.ex : ∃ f : ((α : Type) → Nat → Int → Int → (Bool → Option α) → Option α), f = fun α => @impl_BitOk.b α := ⟨_, rfl⟩
noncomputable def impl_BitOk {α : Type} : Nat → Int → Int → (Bool → Option α) → Option α := Classical.choose impl_BitOk.ex α
theorem impl_BitOk.eq : @impl_BitOk = @impl_BitOk.b := funext fun α => congrFun (Classical.choose_spec impl_BitOk.ex) α

/-- loop.example/pinfold/impl.PairOk -/
noncomputable def impl_PairOk.b {α : Type} (N : Nat) (a591 : Int) (a592 : Int × Int × Unit) (k0 : Bool → Option α) : Option α :=
  impl_BitTop N a591
    (fun x593 =>
      impl_BitOk N a591 a592.1
        (fun x605 =>
          bif x605 then
            impl_BitOk N a591 a592.2.1
              (fun x606 =>
                bif x606 then
                  let x607 := decide (a592.1 ≤ a592.2.1)
                  bif x607 then
                    let x608 := !(decide (a592.1 = x593))
                    bif x608 then
                      let x609 := IntKind.i64.wrap (0 - x593)
                      let x610 := !(decide (a592.2.1 = x609))
                      k0 x610
                    else
                      k0 false
                  else
                    k0 false
                else
                  k0 false)
          else
            k0 false))
theorem impl_PairOk.ex : ∃ f : ((α : Type) → Nat → Int → (Int × Int × Unit) → (Bool → Option α) → Option α), f = fun α => @impl_PairOk.b α := ⟨_, rfl⟩
noncomputable def impl_PairOk {α : Type} : Nat → Int → (Int × Int × Unit) → (Bool → Option α) → Option α := Classical.choose impl_PairOk.ex α
theorem impl_PairOk.eq : @impl_PairOk = @impl_PairOk.b := funext fun α => congrFun (Classical.choose_spec impl_PairOk.ex) α

/-- loop.example/pinfold/impl.NatOk$1 -/
noncomputable def impl_NatOk_1.b {α : Type} (N : Nat) (a637 : Int) (k0 : Bool → Option α) : Option α :=
  impl_in N a637 (0 : Int) (65535 : Int)
    (fun x638 =>
      let x639 := !x638
      k0 x639)
theorem impl_NatOk_1.ex : ∃ f : ((α : Type) → Nat → Int → (Bool → Option α) → Option α), f = fun α => @impl_NatOk_1.b α := ⟨_, rfl⟩
noncomputable def impl_NatOk_1 {α : Type} : Nat → Int → (Bool → Option α) → Option α := Classical.choose impl_NatOk_1.ex α
theorem impl_NatOk_1.eq : @impl_NatOk_1 = @impl_NatOk_1.b := funext fun α => congrFun (Classical.choose_spec impl_NatOk_1.ex) α

noncomputable def slices_IndexFunc_int_int__impl_NatOk_1_L0r {α : Type} (N : Nat) (next : List Int → Int → Int → Option α) (k0 : Int → Option α) (k1 : Option α) (v632 : List Int) (v633 : Int) (v634 : Int) : Option α :=
  let x635 := decide (v634 < v633)
  bif x635 then
    bif (decide (v634 < (0 : Int))) then
      none
    else
      match v632[v634.toNat]? with
      | some x636 =>
        impl_NatOk_1 N x636
          (fun x640 =>
            bif x640 then
              k0 v634
            else
              let x641 := (IntKind.i64.wrap (v634 + (1 : Int)))
              next v632 v633 x641)
      | none => none
  else
    k1
noncomputable def slices_IndexFunc_int_int__impl_NatOk_1_L0.b {α : Type} (N n : Nat) (v632 : List Int) (v633 : Int) (v634 : Int) (k0 : Int → Option α) (k1 : Option α) : Option α :=
  Nat.rec (motive := fun _ => List Int → Int → Int → Option α) (fun _ _ _ => none) (fun _ next => slices_IndexFunc_int_int__impl_NatOk_1_L0r N next k0 k1) n v632 v633 v634
theorem slices_IndexFunc_int_int__impl_NatOk_1_L0.ex : ∃ f : ((α : Type) → Nat → Nat → List Int → Int → Int → (Int → Option α) → (Option α) → Option α), f = fun α => @slices_IndexFunc_int_int__impl_NatOk_1_L0.b α := ⟨_, rfl⟩
noncomputable def slices_IndexFunc_int_int__impl_NatOk_1_L0 {α : Type} : Nat → Nat → List Int → Int → Int → (Int → Option α) → (Option α) → Option α := Classical.choose slices_IndexFunc_int_int__impl_NatOk_1_L0.ex α
theorem slices_IndexFunc_int_int__impl_NatOk_1_L0.eq : @slices_IndexFunc_int_int__impl_NatOk_1_L0 = @slices_IndexFunc_int_int__impl_NatOk_1_L0.b := funext fun α => congrFun (Classical.choose_spec slices_IndexFunc_int_int__impl_NatOk_1_L0.ex) α
theorem slices_IndexFunc_int_int__impl_NatOk_1_L0.zero {α : Type} (N : Nat) (v632 : List Int) (v633 : Int) (v634 : Int) (k0 : Int → Option α) (k1 : Option α) : slices_IndexFunc_int_int__impl_NatOk_1_L0 N 0 v632 v633 v634 k0 k1 = none := by rw [slices_IndexFunc_int_int__impl_NatOk_1_L0.eq]; rfl
theorem slices_IndexFunc_int_int__impl_NatOk_1_L0.succ {α : Type} (N n : Nat) (v632 : List Int) (v633 : Int) (v634 : Int) (k0 : Int → Option α) (k1 : Option α) : slices_IndexFunc_int_int__impl_NatOk_1_L0 N (n + 1) v632 v633 v634 k0 k1 = slices_IndexFunc_int_int__impl_NatOk_1_L0r N (fun y0 y1 y2 => slices_IndexFunc_int_int__impl_NatOk_1_L0 N n y0 y1 y2 k0 k1) k0 k1 v632 v633 v634 := by rw [slices_IndexFunc_int_int__impl_NatOk_1_L0.eq]; rfl
/-- slices.IndexFunc[[]int,int] -/
noncomputable def slices_IndexFunc_int_int__impl_NatOk_1.b {α : Type} (N : Nat) (a630 : List Int) (k0 : Int → Option α) : Option α :=
  let x631 := ((a630.length : Nat) : Int)
  slices_IndexFunc_int_int__impl_NatOk_1_L0 N N a630 x631 (0 : Int)
    (fun x642 =>
      k0 x642)
    (
      k0 (-1 : Int))
theorem slices_IndexFunc_int_int__impl_NatOk_1.ex : ∃ f : ((α : Type) → Nat → List Int → (Int → Option α) → Option α), f = fun α => @slices_IndexFunc_int_int__impl_NatOk_1.b α := ⟨_, rfl⟩
noncomputable def slices_IndexFunc_int_int__impl_NatOk_1 {α : Type} : Nat → List Int → (Int → Option α) → Option α := Classical.choose slices_IndexFunc_int_int__impl_NatOk_1.ex α
theorem slices_IndexFunc_int_int__impl_NatOk_1.eq : @slices_IndexFunc_int_int__impl_NatOk_1 = @slices_IndexFunc_int_int__impl_NatOk_1.b := funext fun α => congrFun (Classical.choose_spec slices_IndexFunc_int_int__impl_NatOk_1.ex) α

/-- slices.ContainsFunc[[]int,int] -/
noncomputable def slices_ContainsFunc_int_int__impl_NatOk_1.b {α : Type} (N : Nat) (a629 : List Int) (k0 : Bool → Option α) : Option α :=
  slices_IndexFunc_int_int__impl_NatOk_1 N a629
    (fun x643 =>
      let x644 := (decide ((0 : Int) ≤ x643))
      k0 x644)
theorem slices_ContainsFunc_int_int__impl_NatOk_1.ex : ∃ f : ((α : Type) → Nat → List Int → (Bool → Option α) → Option α), f = fun α => @slices_ContainsFunc_int_int__impl_NatOk_1.b α := ⟨_, rfl⟩
noncomputable def slices_ContainsFunc_int_int__impl_NatOk_1 {α : Type} : Nat → List Int → (Bool → Option α) → Option α := Classical.choose slices_ContainsFunc_int_int__impl_NatOk_1.ex α
theorem slices_ContainsFunc_int_int__impl_NatOk_1.eq : @slices_ContainsFunc_int_int__impl_NatOk_1 = @slices_ContainsFunc_int_int__impl_NatOk_1.b := funext fun α => congrFun (Classical.choose_spec slices_ContainsFunc_int_int__impl_NatOk_1.ex) α

/-- loop.example/pinfold/impl.NatOk -/
noncomputable def impl_NatOk.b {α : Type} (N : Nat) (a624 : List Int) (k0 : Bool → Option α) : Option α :=
  let x625 := ((a624.length : Nat) : Int)
  let x626 := (decide (x625 ≤ (256 : Int)))
  bif x626 then
    let x627 := ((a624.length : Nat) : Int)
    let x628 := (decide (x627 = (0 : Int)))
    bif x628 then
      slices_ContainsFunc_int_int__impl_NatOk_1 N a624
        (fun x645 =>
          let x646 := !x645
          k0 x646)
    else
      let x647 := ((a624.length : Nat) : Int)
      let x648 := (IntKind.i64.wrap (x647 - (1 : Int)))
      bif (decide (x648 < (0 : Int))) then
        none
      else
        match a624[x648.toNat]? with
        | some x649 =>
          let x650 := (!(decide (x649 = (0 : Int))))
          bif x650 then
            slices_ContainsFunc_int_int__impl_NatOk_1 N a624
              (fun x651 =>
                let x652 := !x651
                k0 x652)
          else
            k0 false
        | none => none
  else
    k0 false
theorem impl_NatOk.ex : ∃ f : ((α : Type) → Nat → List Int → (Bool → Option α) → Option α), f = fun α => @impl_NatOk.b α := ⟨_, rfl⟩
noncomputable def impl_NatOk {α : Type} : Nat → List Int → (Bool → Option α) → Option α := Classical.choose impl_NatOk.ex α
theorem impl_NatOk.eq : @impl_NatOk = @impl_NatOk.b := funext fun α => congrFun (Classical.choose_spec impl_NatOk.ex) α

/-- loop.example/pinfold/impl.nats$1 -/
noncomputable def impl_nats_1.b {α : Type} (N : Nat) (a623 : List Int) (k0 : Bool → Option α) : Option α :=
  impl_NatOk N a623
    (fun x653 =>
      let x654 := !x653
      k0 x654)
theorem impl_nats_1.ex : ∃ f : ((α : Type) → Nat → List Int → (Bool → Option α) → Option α), f = fun α => @impl_nats_1.b α := ⟨_, rfl⟩
noncomputable def impl_nats_1 {α : Type} : Nat → List Int → (Bool → Option α) → Option α := Classical.choose impl_nats_1.ex α
theorem impl_nats_1.eq : @impl_nats_1 = @impl_nats_1.b := funext fun α => congrFun (Classical.choose_spec impl_nats_1.ex) α

noncomputable def slices_IndexFunc_int_int__impl_nats_1_L0r {α : Type} (N : Nat) (next : List (List Int) → Int → Int → Option α) (k0 : Int → Option α) (k1 : Option α) (v618 : List (List Int)) (v619 : Int) (v620 : Int) : Option α :=
  let x621 := decide (v620 < v619)
  bif x621 then
    bif (decide (v620 < (0 : Int))) then
      none
    else
      match v618[v620.toNat]? with
      | some x622 =>
        impl_nats_1 N x622
          (fun x655 =>
            bif x655 then
              k0 v620
            else
              let x656 := (IntKind.i64.wrap (v620 + (1 : Int)))
              next v618 v619 x656)
      | none => none
  else
    k1
noncomputable def slices_IndexFunc_int_int__impl_nats_1_L0.b {α : Type} (N n : Nat) (v618 : List (List Int)) (v619 : Int) (v620 : Int) (k0 : Int → Option α) (k1 : Option α) : Option α :=
  Nat.rec (motive := fun _ => List (List Int) → Int → Int → Option α) (fun _ _ _ => none) (fun _ next => slices_IndexFunc_int_int__impl_nats_1_L0r N next k0 k1) n v618 v619 v620
theorem slices_IndexFunc_int_int__impl_nats_1_L0.ex : ∃ f : ((α : Type) → Nat → Nat → List (List Int) → Int → Int → (Int → Option α) → (Option α) → Option α), f = fun α => @slices_IndexFunc_int_int__impl_nats_1_L0.b α := ⟨_, rfl⟩
noncomputable def slices_IndexFunc_int_int__impl_nats_1_L0 {α : Type} : Nat → Nat → List (List Int) → Int → Int → (Int → Option α) → (Option α) → Option α := Classical.choose slices_IndexFunc_int_int__impl_nats_1_L0.ex α
theorem slices_IndexFunc_int_int__impl_nats_1_L0.eq : @slices_IndexFunc_int_int__impl_nats_1_L0 = @slices_IndexFunc_int_int__impl_nats_1_L0.b := funext fun α => congrFun (Classical.choose_spec slices_IndexFunc_int_int__impl_nats_1_L0.ex) α
theorem slices_IndexFunc_int_int__impl_nats_1_L0.zero {α : Type} (N : Nat) (v618 : List (List Int)) (v619 : Int) (v620 : Int) (k0 : Int → Option α) (k1 : Option α) : slices_IndexFunc_int_int__impl_nats_1_L0 N 0 v618 v619 v620 k0 k1 = none := by rw [slices_IndexFunc_int_int__impl_nats_1_L0.eq]; rfl
theorem slices_IndexFunc_int_int__impl_nats_1_L0.succ {α : Type} (N n : Nat) (v618 : List (List Int)) (v619 : Int) (v620 : Int) (k0 : Int → Option α) (k1 : Option α) : slices_IndexFunc_int_int__impl_nats_1_L0 N (n + 1) v618 v619 v620 k0 k1 = slices_IndexFunc_int_int__impl_nats_1_L0r N (fun y0 y1 y2 => slices_IndexFunc_int_int__impl_nats_1_L0 N n y0 y1 y2 k0 k1) k0 k1 v618 v619 v620 := by rw [slices_IndexFunc_int_int__impl_nats_1_L0.eq]; rfl
/-- slices.IndexFunc[[][]int,[]int] -/
noncomputable def slices_IndexFunc_int_int__impl_nats_1.b {α : Type} (N : Nat) (a616 : List (List Int)) (k0 : Int → Option α) : Option α :=
  let x617 := ((a616.length : Nat) : Int)
  slices_IndexFunc_int_int__impl_nats_1_L0 N N a616 x617 (0 : Int)
    (fun x657 =>
      k0 x657)
    (
      k0 (-1 : Int))
theorem slices_IndexFunc_int_int__impl_nats_1.ex : ∃ f : ((α : Type) → Nat → List (List Int) → (Int → Option α) → Option α), f = fun α => @slices_IndexFunc_int_int__impl_nats_1.b α := ⟨_, rfl⟩
noncomputable def slices_IndexFunc_int_int__impl_nats_1 {α : Type} : Nat → List (List Int) → (Int → Option α) → Option α := Classical.choose slices_IndexFunc_int_int__impl_nats_1.ex α
theorem slices_IndexFunc_int_int__impl_nats_1.eq : @slices_IndexFunc_int_int__impl_nats_1 = @slices_IndexFunc_int_int__impl_nats_1.b := funext fun α => congrFun (Classical.choose_spec slices_IndexFunc_int_int__impl_nats_1.ex) α

/-- slices.ContainsFunc[[][]int,[]int] -/
noncomputable def slices_ContainsFunc_int_int__impl_nats_1.b {α : Type} (N : Nat) (a615 : List (List Int)) (k0 : Bool → Option α) : Option α :=
  slices_IndexFunc_int_int__impl_nats_1 N a615
    (fun x658 =>
      let x659 := (decide ((0 : Int) ≤ x658))
      k0 x659)
theorem slices_ContainsFunc_int_int__impl_nats_1.ex : ∃ f : ((α : Type) → Nat → List (List Int) → (Bool → Option α) → Option α), f = fun α => @slices_ContainsFunc_int_int__impl_nats_1.b α := ⟨_, rfl⟩
noncomputable def slices_ContainsFunc_int_int__impl_nats_1 {α : Type} : Nat → List (List Int) → (Bool → Option α) → Option α := Classical.choose slices_ContainsFunc_int_int__impl_nats_1.ex α
theorem slices_ContainsFunc_int_int__impl_nats_1.eq : @slices_ContainsFunc_int_int__impl_nats_1 = @slices_ContainsFunc_int_int__impl_nats_1.b := funext fun α => congrFun (Classical.choose_spec slices_ContainsFunc_int_int__impl_nats_1.ex) α

/-- loop.example/pinfold/impl.nats -/
noncomputable def impl_nats.b {α : Type} (N : Nat) (a614 : List (List Int)) (k0 : Bool → Option α) : Option α :=
  slices_ContainsFunc_int_int__impl_nats_1 N a614
    (fun x660 =>
      let x661 := !x660
      k0 x661)
theorem impl_nats.ex : ∃ f : ((α : Type) → Nat → List (List Int) → (Bool → Option α) → Option α), f = fun α => @impl_nats.b α := ⟨_, rfl⟩
noncomputable def impl_nats {α : Type} : Nat → List (List Int) → (Bool → Option α) → Option α := Classical.choose impl_nats.ex α
theorem impl_nats.eq : @impl_nats = @impl_nats.b := funext fun α => congrFun (Classical.choose_spec impl_nats.ex) α

noncomputable def impl_natCmp_L0r {α : Type} (N : Nat) (next : List Int → List Int → Int → Option α) (k0 : Int → Option α) (k1 : Option α) (v756 : List Int) (v757 : List Int) (v758 : Int) : Option α :=
  let x759 := (decide ((0 : Int) ≤ v758))
  bif x759 then
    bif (decide (v758 < (0 : Int))) then
      none
    else
      match v756[v758.toNat]? with
      | some x760 =>
        bif (decide (v758 < (0 : Int))) then
          none
        else
          match v757[v758.toNat]? with
          | some x761 =>
            let x762 := !(decide (x760 = x761))
            bif x762 then
              bif (decide (v758 < (0 : Int))) then
                none
              else
                match v756[v758.toNat]? with
                | some x763 =>
                  bif (decide (v758 < (0 : Int))) then
                    none
                  else
                    match v757[v758.toNat]? with
                    | some x764 =>
                      let x765 := IntKind.i64.wrap (x763 - x764)
                      let x766 := (minI (1 : Int) x765)
                      let x767 := (maxI (-1 : Int) x766)
                      k0 x767
                    | none => none
                | none => none
            else
              let x768 := (IntKind.i64.wrap (v758 - (1 : Int)))
              next v756 v757 x768
          | none => none
      | none => none
  else
    k1
noncomputable def impl_natCmp_L0.b {α : Type} (N n : Nat) (v756 : List Int) (v757 : List Int) (v758 : Int) (k0 : Int → Option α) (k1 : Option α) : Option α :=
  Nat.rec (motive := fun _ => List Int → List Int → Int → Option α) (fun _ _ _ => none) (fun _ next => impl_natCmp_L0r N next k0 k1) n v756 v757 v758
theorem impl_natCmp_L0.ex : ∃ f : ((α : Type) → Nat → Nat → List Int → List Int → Int → (Int → Option α) → (Option α) → Option α), f = fun α => @impl_natCmp_L0.b α := ⟨_, rfl⟩
noncomputable def impl_natCmp_L0 {α : Type} : Nat → Nat → List Int → List Int → Int → (Int → Option α) → (Option α) → Option α := Classical.choose impl_natCmp_L0.ex α
theorem impl_natCmp_L0.eq : @impl_natCmp_L0 = @impl_natCmp_L0.b := funext fun α => congrFun (Classical.choose_spec impl_natCmp_L0.ex) α
theorem impl_natCmp_L0.zero {α : Type} (N : Nat) (v756 : List Int) (v757 : List Int) (v758 : Int) (k0 : Int → Option α) (k1 : Option α) : impl_natCmp_L0 N 0 v756 v757 v758 k0 k1 = none := by rw [impl_natCmp_L0.eq]; rfl
theorem impl_natCmp_L0.succ {α : Type} (N n : Nat) (v756 : List Int) (v757 : List Int) (v758 : Int) (k0 : Int → Option α) (k1 : Option α) : impl_natCmp_L0 N (n + 1) v756 v757 v758 k0 k1 = impl_natCmp_L0r N (fun y0 y1 y2 => impl_natCmp_L0 N n y0 y1 y2 k0 k1) k0 k1 v756 v757 v758 := by rw [impl_natCmp_L0.eq]; rfl
/-- loop.example/pinfold/impl.natCmp -/
noncomputable def impl_natCmp.b {α : Type} (N : Nat) (a744 : List Int) (a745 : List Int) (k0 : Int → Option α) : Option α :=
  let x746 := ((a744.length : Nat) : Int)
  let x747 := ((a745.length : Nat) : Int)
  let x748 := !(decide (x746 = x747))
  bif x748 then
    let x749 := ((a744.length : Nat) : Int)
    let x750 := ((a745.length : Nat) : Int)
    let x751 := IntKind.i64.wrap (x749 - x750)
    let x752 := (minI (1 : Int) x751)
    let x753 := (maxI (-1 : Int) x752)
    k0 x753
  else
    let x754 := ((a744.length : Nat) : Int)
    let x755 := (IntKind.i64.wrap (x754 - (1 : Int)))
    impl_natCmp_L0 N N a744 a745 x755
      (fun x769 =>
        k0 x769)
      (
        k0 (0 : Int))
theorem impl_natCmp.ex : ∃ f : ((α : Type) → Nat → List Int → List Int → (Int → Option α) → Option α), f = fun α => @impl_natCmp.b α := ⟨_, rfl⟩
noncomputable def impl_natCmp {α : Type} : Nat → List Int → List Int → (Int → Option α) → Option α := Classical.choose impl_natCmp.ex α
theorem impl_natCmp.eq : @impl_natCmp = @impl_natCmp.b := funext fun α => congrFun (Classical.choose_spec impl_natCmp.ex) α

noncomputable def impl_trim_L0r {α : Type} (N : Nat) (next : List Int → Option α) (k0 : List Int → Option α) (v797 : List Int) : Option α :=
  let x798 := ((v797.length : Nat) : Int)
  let x799 := (decide ((0 : Int) < x798))
  bif x799 then
    let x800 := ((v797.length : Nat) : Int)
    let x801 := (IntKind.i64.wrap (x800 - (1 : Int)))
    bif (decide (x801 < (0 : Int))) then
      none
    else
      match v797[x801.toNat]? with
      | some x802 =>
        let x803 := (decide (x802 = (0 : Int)))
        bif x803 then
          let x804 := ((v797.length : Nat) : Int)
          let x805 := (IntKind.i64.wrap (x804 - (1 : Int)))
          bif (decide ((0 : Int) ≤ x805)) then
            bif (decide (x805 ≤ ((v797.length : Nat) : Int))) then
              let x806 := v797.take x805.toNat
              next x806
            else
              none
          else
            none
        else
          k0 v797
      | none => none
  else
    k0 v797
noncomputable def impl_trim_L0.b {α : Type} (N n : Nat) (v797 : List Int) (k0 : List Int → Option α) : Option α :=
  Nat.rec (motive := fun _ => List Int → Option α) (fun _ => none) (fun _ next => impl_trim_L0r N next k0) n v797
theorem impl_trim_L0.ex : ∃ f : ((α : Type) → Nat → Nat → List Int → (List Int → Option α) → Option α), f = fun α => @impl_trim_L0.b α := ⟨_, rfl⟩
noncomputable def impl_trim_L0 {α : Type} : Nat → Nat → List Int → (List Int → Option α) → Option α := Classical.choose impl_trim_L0.ex α
theorem impl_trim_L0.eq : @impl_trim_L0 = @impl_trim_L0.b := funext fun α => congrFun (Classical.choose_spec impl_trim_L0.ex) α
theorem impl_trim_L0.zero {α : Type} (N : Nat) (v797 : List Int) (k0 : List Int → Option α) : impl_trim_L0 N 0 v797 k0 = none := by rw [impl_trim_L0.eq]; rfl
theorem impl_trim_L0.succ {α : Type} (N n : Nat) (v797 : List Int) (k0 : List Int → Option α) : impl_trim_L0 N (n + 1) v797 k0 = impl_trim_L0r N (fun y0 => impl_trim_L0 N n y0 k0) k0 v797 := by rw [impl_trim_L0.eq]; rfl
/-- loop.example/pinfold/impl.trim -/
noncomputable def impl_trim.b {α : Type} (N : Nat) (a796 : List Int) (k0 : List Int → Option α) : Option α :=
  impl_trim_L0 N N a796
    (fun x807 =>
      k0 x807)
theorem impl_trim.ex : ∃ f : ((α : Type) → Nat → List Int → (List Int → Option α) → Option α), f = fun α => @impl_trim.b α := ⟨_, rfl⟩
noncomputable def impl_trim {α : Type} : Nat → List Int → (List Int → Option α) → Option α := Classical.choose impl_trim.ex α
theorem impl_trim.eq : @impl_trim = @impl_trim.b := funext fun α => congrFun (Classical.choose_spec impl_trim.ex) α

noncomputable def math_bits_Len64_J1.b {α : Type} (N : Nat) (v817 : Int) (v818 : Int) (k0 : Int → Int → Option α) : Option α :=
  let x819 := (decide ((4294967296 : Int) ≤ v817))
  bif x819 then
    let x820 := (shrI .u64 v817 (32 : Int))
    k0 x820 (32 : Int)
  else
    k0 v817 v818
theorem math_bits_Len64_J1.ex : ∃ f : ((α : Type) → Nat → Int → Int → (Int → Int → Option α) → Option α), f = fun α => @math_bits_Len64_J1.b α := ⟨_, rfl⟩
noncomputable def math_bits_Len64_J1 {α : Type} : Nat → Int → Int → (Int → Int → Option α) → Option α := Classical.choose math_bits_Len64_J1.ex α
theorem math_bits_Len64_J1.eq : @math_bits_Len64_J1 = @math_bits_Len64_J1.b := funext fun α => congrFun (Classical.choose_spec math_bits_Len64_J1.ex) α
noncomputable def math_bits_Len64_J4.b {α : Type} (N : Nat) (v823 : Int) (v824 : Int) (k0 : Int → Int → Option α) : Option α :=
  let x825 := (decide ((65536 : Int) ≤ v823))
  bif x825 then
    let x826 := (shrI .u64 v823 (16 : Int))
    let x827 := (IntKind.i64.wrap (v824 + (16 : Int)))
    k0 x826 x827
  else
    k0 v823 v824
theorem math_bits_Len64_J4.ex : ∃ f : ((α : Type) → Nat → Int → Int → (Int → Int → Option α) → Option α), f = fun α => @math_bits_Len64_J4.b α := ⟨_, rfl⟩
noncomputable def math_bits_Len64_J4 {α : Type} : Nat → Int → Int → (Int → Int → Option α) → Option α := Classical.choose math_bits_Len64_J4.ex α
theorem math_bits_Len64_J4.eq : @math_bits_Len64_J4 = @math_bits_Len64_J4.b := funext fun α => congrFun (Classical.choose_spec math_bits_Len64_J4.ex) α
noncomputable def math_bits_Len64_J7.b {α : Type} (N : Nat) (v830 : Int) (v831 : Int) (k0 : Int → Int → Option α) : Option α :=
  let x832 := (decide ((256 : Int) ≤ v830))
  bif x832 then
    let x833 := (shrI .u64 v830 (8 : Int))
    let x834 := (IntKind.i64.wrap (v831 + (8 : Int)))
    k0 x833 x834
  else
    k0 v830 v831
theorem math_bits_Len64_J7.ex : ∃ f : ((α : Type) → Nat → Int → Int → (Int → Int → Option α) → Option α), f = fun α => @math_bits_Len64_J7.b α := ⟨_, rfl⟩
noncomputable def math_bits_Len64_J7 {α : Type} : Nat → Int → Int → (Int → Int → Option α) → Option α := Classical.choose math_bits_Len64_J7.ex α
theorem math_bits_Len64_J7.eq : @math_bits_Len64_J7 = @math_bits_Len64_J7.b := funext fun α => congrFun (Classical.choose_spec math_bits_Len64_J7.ex) α
/-- math/bits.Len64 -/
noncomputable def math_bits_Len64.b {α : Type} (N : Nat) (a816 : Int) (k0 : Int → Option α) : Option α :=
  math_bits_Len64_J1 N a816 (0 : Int)
    (fun x821 x822 =>
      math_bits_Len64_J4 N x821 x822
        (fun x828 x829 =>
          math_bits_Len64_J7 N x828 x829
            (fun x835 x836 =>
              let x837 := IntKind.u8.wrap x835
              bif (decide (x837 < (0 : Int))) then
                none
              else
                match ((⟨#[0, 1, 2, 2, 3, 3, 3, 3, 4, 4, 4, 4, 4, 4, 4, 4, 5, 5, 5, 5, 5, 5, 5, 5, 5, 5, 5, 5, 5, 5, 5, 5, 6, 6, 6, 6, 6, 6, 6, 6, 6, 6, 6, 6, 6, 6, 6, 6, 6, 6, 6, 6, 6, 6, 6, 6, 6, 6, 6, 6, 6, 6, 6, 6, 7, 7, 7, 7, 7, 7, 7, 7, 7, 7, 7, 7, 7, 7, 7, 7, 7, 7, 7, 7, 7, 7, 7, 7, 7, 7, 7, 7, 7, 7, 7, 7, 7, 7, 7, 7, 7, 7, 7, 7, 7, 7, 7, 7, 7, 7, 7, 7, 7, 7, 7, 7, 7, 7, 7, 7, 7, 7, 7, 7, 7, 7, 7, 7, 8, 8, 8, 8, 8, 8, 8, 8, 8, 8, 8, 8, 8, 8, 8, 8, 8, 8, 8, 8, 8, 8, 8, 8, 8, 8, 8, 8, 8, 8, 8, 8, 8, 8, 8, 8, 8, 8, 8, 8, 8, 8, 8, 8, 8, 8, 8, 8, 8, 8, 8, 8, 8, 8, 8, 8, 8, 8, 8, 8, 8, 8, 8, 8, 8, 8, 8, 8, 8, 8, 8, 8, 8, 8, 8, 8, 8, 8, 8, 8, 8, 8, 8, 8, 8, 8, 8, 8, 8, 8, 8, 8, 8, 8, 8, 8, 8, 8, 8, 8, 8, 8, 8, 8, 8, 8, 8, 8, 8, 8, 8, 8, 8, 8, 8, 8, 8, 8, 8, 8, 8, 8, 8, 8, 8, 8, 8, 8]⟩ : ByteArray)[x837.toNat]? : Option UInt8) with
                | some x838 =>
                  let x839 := ((x838.toNat : Nat) : Int)
                  let x840 := IntKind.i64.wrap x839
                  let x841 := IntKind.i64.wrap (x836 + x840)
                  k0 x841
                | none => none)))
theorem math_bits_Len64.ex : ∃ f : ((α : Type) → Nat → Int → (Int → Option α) → Option α), f = fun α => @math_bits_Len64.b α := ⟨_, rfl⟩
noncomputable def math_bits_Len64 {α : Type} : Nat → Int → (Int → Option α) → Option α := Classical.choose math_bits_Len64.ex α
theorem math_bits_Len64.eq : @math_bits_Len64 = @math_bits_Len64.b := funext fun α => congrFun (Classical.choose_spec math_bits_Len64.ex) α

/-- math/bits.Len -/
noncomputable def math_bits_Len.b {α : Type} (N : Nat) (a815 : Int) (k0 : Int → Option α) : Option α :=
  math_bits_Len64 N a815
    (fun x842 =>
      k0 x842)
theorem math_bits_Len.ex : ∃ f : ((α : Type) → Nat → Int → (Int → Option α) → Option α), f = fun α => @math_bits_Len.b α := ⟨_, rfl⟩
noncomputable def math_bits_Len {α : Type} : Nat → Int → (Int → Option α) → Option α := Classical.choose math_bits_Len.ex α
theorem math_bits_Len.eq : @math_bits_Len = @math_bits_Len.b := funext fun α => congrFun (Classical.choose_spec math_bits_Len.ex) α

/-- slices.Clone[[]int,int] -/
noncomputable def slices_Clone_int_int {α : Type} (N : Nat) (a1 : List Int) (k0 : List Int → Option α) : Option α :=
  bif decide (([] : List Int).length + a1.length ≤ 8796093022208) then k0 a1 else none

noncomputable def impl_natShift_J10.b {α : Type} (N : Nat) (v921 : List Int) (v922 : Int) (v923 : Int) (v924 : Int) (v925 : Int) (v926 : Int) (v927 : List Int) (k0 : List Int → Int → Int → Int → Int → List Int → Option α) : Option α :=
  let x928 := IntKind.i64.wrap (v922 + v924)
  let x929 := (IntKind.i64.wrap (x928 + (1 : Int)))
  let x930 := ((v921.length : Nat) : Int)
  let x931 := decide (x929 < x930)
  bif x931 then
    bif (decide (v924 < (0 : Int))) then
      none
    else
      bif decide (v924.toNat < v927.length) then
        match v927[v924.toNat]? with
        | some x932 =>
          let x933 := IntKind.i64.wrap (v922 + v924)
          let x934 := (IntKind.i64.wrap (x933 + (1 : Int)))
          bif (decide (x934 < (0 : Int))) then
            none
          else
            match v921[x934.toNat]? with
            | some x935 =>
              let x936 := (IntKind.i64.wrap ((16 : Int) - v923))
              bif (decide (x936 < (0 : Int))) then
                none
              else
                let x937 := shlI .i64 x935 x936
                let x938 := (bitI .and .i64 x937 (65535 : Int))
                let x939 := bitI .or .i64 x932 x938
                bif (decide (v924 < (0 : Int))) then
                  none
                else
                  bif decide (v924.toNat < v927.length) then
                    match v927[v924.toNat]? with
                    | some x940 =>
                      let x941 := v927.set v924.toNat x939
                      k0 v921 v922 v923 v925 v926 x941
                    | none => none
                  else
                    none
            | none => none
        | none => none
      else
        none
  else
    k0 v921 v922 v923 v925 v926 v927
theorem impl_natShift_J10.ex : ∃ f : ((α : Type) → Nat → List Int → Int → Int → Int → Int → Int → List Int → (List Int → Int → Int → Int → Int → List Int → Option α) → Option α), f = fun α => @impl_natShift_J10.b α := ⟨_, rfl⟩
noncomputable def impl_natShift_J10 {α : Type} : Nat → List Int → Int → Int → Int → Int → Int → List Int → (List Int → Int → Int → Int → Int → List Int → Option α) → Option α := Classical.choose impl_natShift_J10.ex α
theorem impl_natShift_J10.eq : @impl_natShift_J10 = @impl_natShift_J10.b := funext fun α => congrFun (Classical.choose_spec impl_natShift_J10.ex) α
noncomputable def impl_natShift_L0r {α : Type} (N : Nat) (next : List Int → Int → Int → Int → Int → List Int → Option α) (k0 : List Int → Option α) (v910 : List Int) (v911 : Int) (v912 : Int) (v913 : Int) (v914 : Int) (v915 : List Int) : Option α :=
  let x916 := decide (v914 < v913)
  bif x916 then
    bif (decide (v914 < (0 : Int))) then
      none
    else
      bif decide (v914.toNat < v915.length) then
        match v915[v914.toNat]? with
        | some x917 =>
          bif (decide (v912 < (0 : Int))) then
            none
          else
            let x918 := shrI .i64 x917 v912
            bif (decide (v914 < (0 : Int))) then
              none
            else
              bif decide (v914.toNat < v915.length) then
                match v915[v914.toNat]? with
                | some x919 =>
                  let x920 := v915.set v914.toNat x918
                  impl_natShift_J10 N v910 v911 v912 v914 v913 v914 x920
                    (fun x942 x943 x944 x945 x946 x947 =>
                      let x948 := (IntKind.i64.wrap (x946 + (1 : Int)))
                      next x942 x943 x944 x945 x948 x947)
                | none => none
              else
                none
        | none => none
      else
        none
  else
    k0 v915
noncomputable def impl_natShift_L0.b {α : Type} (N n : Nat) (v910 : List Int) (v911 : Int) (v912 : Int) (v913 : Int) (v914 : Int) (v915 : List Int) (k0 : List Int → Option α) : Option α :=
  Nat.rec (motive := fun _ => List Int → Int → Int → Int → Int → List Int → Option α) (fun _ _ _ _ _ _ => none) (fun _ next => impl_natShift_L0r N next k0) n v910 v911 v912 v913 v914 v915
theorem impl_natShift_L0.ex : ∃ f : ((α : Type) → Nat → Nat → List Int → Int → Int → Int → Int → List Int → (List Int → Option α) → Option α), f = fun α => @impl_natShift_L0.b α := ⟨_, rfl⟩
noncomputable def impl_natShift_L0 {α : Type} : Nat → Nat → List Int → Int → Int → Int → Int → List Int → (List Int → Option α) → Option α := Classical.choose impl_natShift_L0.ex α
theorem impl_natShift_L0.eq : @impl_natShift_L0 = @impl_natShift_L0.b := funext fun α => congrFun (Classical.choose_spec impl_natShift_L0.ex) α
theorem impl_natShift_L0.zero {α : Type} (N : Nat) (v910 : List Int) (v911 : Int) (v912 : Int) (v913 : Int) (v914 : Int) (v915 : List Int) (k0 : List Int → Option α) : impl_natShift_L0 N 0 v910 v911 v912 v913 v914 v915 k0 = none := by rw [impl_natShift_L0.eq]; rfl
theorem impl_natShift_L0.succ {α : Type} (N n : Nat) (v910 : List Int) (v911 : Int) (v912 : Int) (v913 : Int) (v914 : Int) (v915 : List Int) (k0 : List Int → Option α) : impl_natShift_L0 N (n + 1) v910 v911 v912 v913 v914 v915 k0 = impl_natShift_L0r N (fun y0 y1 y2 y3 y4 y5 => impl_natShift_L0 N n y0 y1 y2 y3 y4 y5 k0) k0 v910 v911 v912 v913 v914 v915 := by rw [impl_natShift_L0.eq]; rfl
noncomputable def impl_natShift_L2r {α : Type} (N : Nat) (next : Int → List Int → Int → Int → List Int → Option α) (k0 : List Int → Option α) (v957 : Int) (v958 : List Int) (v959 : Int) (v960 : Int) (v961 : List Int) : Option α :=
  let x962 := decide (v960 < v959)
  bif x962 then
    bif (decide (v960 < (0 : Int))) then
      none
    else
      match v958[v960.toNat]? with
      | some x963 =>
        let x964 := (Int.tmod v957 (16 : Int))
        bif (decide (x964 < (0 : Int))) then
          none
        else
          let x965 := shlI .i64 x963 x964
          let x966 := (IntKind.i64.wrap (Int.tdiv v957 (16 : Int)))
          let x967 := IntKind.i64.wrap (x966 + v960)
          bif (decide (x967 < (0 : Int))) then
            none
          else
            bif decide (x967.toNat < v961.length) then
              match v961[x967.toNat]? with
              | some x968 =>
                let x969 := (bitI .and .i64 x965 (65535 : Int))
                let x970 := bitI .or .i64 x968 x969
                bif (decide (x967 < (0 : Int))) then
                  none
                else
                  bif decide (x967.toNat < v961.length) then
                    match v961[x967.toNat]? with
                    | some x971 =>
                      let x972 := v961.set x967.toNat x970
                      let x973 := (IntKind.i64.wrap (Int.tdiv v957 (16 : Int)))
                      let x974 := IntKind.i64.wrap (x973 + v960)
                      let x975 := (IntKind.i64.wrap (x974 + (1 : Int)))
                      let x976 := (shrI .i64 x965 (16 : Int))
                      bif (decide (x975 < (0 : Int))) then
                        none
                      else
                        bif decide (x975.toNat < x972.length) then
                          match x972[x975.toNat]? with
                          | some x977 =>
                            let x978 := x972.set x975.toNat x976
                            let x979 := (IntKind.i64.wrap (v960 + (1 : Int)))
                            next v957 v958 v959 x979 x978
                          | none => none
                        else
                          none
                    | none => none
                  else
                    none
              | none => none
            else
              none
      | none => none
  else
    k0 v961
noncomputable def impl_natShift_L2.b {α : Type} (N n : Nat) (v957 : Int) (v958 : List Int) (v959 : Int) (v960 : Int) (v961 : List Int) (k0 : List Int → Option α) : Option α :=
  Nat.rec (motive := fun _ => Int → List Int → Int → Int → List Int → Option α) (fun _ _ _ _ _ => none) (fun _ next => impl_natShift_L2r N next k0) n v957 v958 v959 v960 v961
theorem impl_natShift_L2.ex : ∃ f : ((α : Type) → Nat → Nat → Int → List Int → Int → Int → List Int → (List Int → Option α) → Option α), f = fun α => @impl_natShift_L2.b α := ⟨_, rfl⟩
noncomputable def impl_natShift_L2 {α : Type} : Nat → Nat → Int → List Int → Int → Int → List Int → (List Int → Option α) → Option α := Classical.choose impl_natShift_L2.ex α
theorem impl_natShift_L2.eq : @impl_natShift_L2 = @impl_natShift_L2.b := funext fun α => congrFun (Classical.choose_spec impl_natShift_L2.ex) α
theorem impl_natShift_L2.zero {α : Type} (N : Nat) (v957 : Int) (v958 : List Int) (v959 : Int) (v960 : Int) (v961 : List Int) (k0 : List Int → Option α) : impl_natShift_L2 N 0 v957 v958 v959 v960 v961 k0 = none := by rw [impl_natShift_L2.eq]; rfl
theorem impl_natShift_L2.succ {α : Type} (N n : Nat) (v957 : Int) (v958 : List Int) (v959 : Int) (v960 : Int) (v961 : List Int) (k0 : List Int → Option α) : impl_natShift_L2 N (n + 1) v957 v958 v959 v960 v961 k0 = impl_natShift_L2r N (fun y0 y1 y2 y3 y4 => impl_natShift_L2 N n y0 y1 y2 y3 y4 k0) k0 v957 v958 v959 v960 v961 := by rw [impl_natShift_L2.eq]; rfl
/-- loop.example/pinfold/impl.natShift -/
noncomputable def impl_natShift.b {α : Type} (N : Nat) (a898 : List Int) (a899 : Int) (k0 : List Int → Option α) : Option α :=
  let x900 := (decide (a899 < (0 : Int)))
  bif x900 then
    let x901 := IntKind.i64.wrap (0 - a899)
    let x902 := (IntKind.i64.wrap (Int.tdiv x901 (16 : Int)))
    let x903 := IntKind.i64.wrap (0 - a899)
    let x904 := (Int.tmod x903 (16 : Int))
    let x905 := ((a898.length : Nat) : Int)
    let x906 := decide (x905 ≤ x902)
    bif x906 then
      k0 []
    else
      bif (decide ((0 : Int) ≤ x902)) then
        bif (decide (x902 ≤ ((a898.length : Nat) : Int))) then
          let x907 := a898.drop x902.toNat
          slices_Clone_int_int N x907
            (fun x908 =>
              let x909 := ((x908.length : Nat) : Int)
              impl_natShift_L0 N N a898 x902 x904 x909 (0 : Int) x908
                (fun x949 =>
                  impl_trim N x949
                    (fun x950 =>
                      k0 x950)))
        else
          none
      else
        none
  else
    let x951 := (IntKind.i64.wrap (Int.tdiv a899 (16 : Int)))
    let x952 := ((a898.length : Nat) : Int)
    let x953 := IntKind.i64.wrap (x951 + x952)
    let x954 := (IntKind.i64.wrap (x953 + (1 : Int)))
    bif (decide ((0 : Int) ≤ x954)) then
      bif decide (x954 ≤ x954) then
        bif (decide (x954 ≤ ((8796093022208 : Nat) : Int))) then
          let x955 := (List.replicate x954.toNat (0 : Int))
          let x956 := ((a898.length : Nat) : Int)
          impl_natShift_L2 N N a899 a898 x956 (0 : Int) x955
            (fun x980 =>
              impl_trim N x980
                (fun x981 =>
                  k0 x981))
        else
          none
      else
        none
    else
      none
theorem impl_natShift.ex : ∃ f : ((α : Type) → Nat → List Int → Int → (List Int → Option α) → Option α), f = fun α => @impl_natShift.b α := ⟨_, rfl⟩
noncomputable def impl_natShift {α : Type} : Nat → List Int → Int → (List Int → Option α) → Option α := Classical.choose impl_natShift.ex α
theorem impl_natShift.eq : @impl_natShift = @impl_natShift.b := funext fun α => congrFun (Classical.choose_spec impl_natShift.ex) α

noncomputable def impl_natDiv_L0r {α : Type} (N : Nat) (next : List Int → List Int → Int → Int → List Int → Option α) (k0 : Int → List Int → Option α) (v778 : List Int) (v779 : List Int) (v780 : Int) (v781 : Int) (v782 : List Int) : Option α :=
  let x783 := (decide ((0 : Int) ≤ v781))
  bif x783 then
    let x784 := (shlI .i64 v780 (16 : Int))
    bif (decide (v781 < (0 : Int))) then
      none
    else
      match v778[v781.toNat]? with
      | some x785 =>
        let x786 := bitI .or .i64 x784 x785
        match v779[0]? with
        | some x787 =>
          bif (decide (x787 = (0 : Int))) then
            none
          else
            let x788 := IntKind.i64.wrap (Int.tdiv x786 x787)
            match v779[0]? with
            | some x789 =>
              bif (decide (x789 = (0 : Int))) then
                none
              else
                let x790 := Int.tmod x786 x789
                bif (decide (v781 < (0 : Int))) then
                  none
                else
                  bif decide (v781.toNat < v782.length) then
                    match v782[v781.toNat]? with
                    | some x791 =>
                      let x792 := v782.set v781.toNat x788
                      let x793 := (IntKind.i64.wrap (v781 - (1 : Int)))
                      next v778 v779 x790 x793 x792
                    | none => none
                  else
                    none
            | none => none
        | none => none
      | none => none
  else
    k0 v780 v782
noncomputable def impl_natDiv_L0.b {α : Type} (N n : Nat) (v778 : List Int) (v779 : List Int) (v780 : Int) (v781 : Int) (v782 : List Int) (k0 : Int → List Int → Option α) : Option α :=
  Nat.rec (motive := fun _ => List Int → List Int → Int → Int → List Int → Option α) (fun _ _ _ _ _ => none) (fun _ next => impl_natDiv_L0r N next k0) n v778 v779 v780 v781 v782
theorem impl_natDiv_L0.ex : ∃ f : ((α : Type) → Nat → Nat → List Int → List Int → Int → Int → List Int → (Int → List Int → Option α) → Option α), f = fun α => @impl_natDiv_L0.b α := ⟨_, rfl⟩
noncomputable def impl_natDiv_L0 {α : Type} : Nat → Nat → List Int → List Int → Int → Int → List Int → (Int → List Int → Option α) → Option α := Classical.choose impl_natDiv_L0.ex α
theorem impl_natDiv_L0.eq : @impl_natDiv_L0 = @impl_natDiv_L0.b := funext fun α => congrFun (Classical.choose_spec impl_natDiv_L0.ex) α
theorem impl_natDiv_L0.zero {α : Type} (N : Nat) (v778 : List Int) (v779 : List Int) (v780 : Int) (v781 : Int) (v782 : List Int) (k0 : Int → List Int → Option α) : impl_natDiv_L0 N 0 v778 v779 v780 v781 v782 k0 = none := by rw [impl_natDiv_L0.eq]; rfl
theorem impl_natDiv_L0.succ {α : Type} (N n : Nat) (v778 : List Int) (v779 : List Int) (v780 : Int) (v781 : Int) (v782 : List Int) (k0 : Int → List Int → Option α) : impl_natDiv_L0 N (n + 1) v778 v779 v780 v781 v782 k0 = impl_natDiv_L0r N (fun y0 y1 y2 y3 y4 => impl_natDiv_L0 N n y0 y1 y2 y3 y4 k0) k0 v778 v779 v780 v781 v782 := by rw [impl_natDiv_L0.eq]; rfl
noncomputable def impl_natDiv_L2r {α : Type} (N : Nat) (next : List Int → Int → List Int → Int → List Int → Option α) (k0 : Int → List Int → Int → List Int → Option α) (v988 : List Int) (v989 : Int) (v990 : List Int) (v991 : Int) (v992 : List Int) : Option α :=
  let x993 := ((v992.length : Nat) : Int)
  let x994 := ((v988.length : Nat) : Int)
  let x995 := (IntKind.i64.wrap (x994 + (1 : Int)))
  let x996 := decide (x993 < x995)
  bif x996 then
    let x997 := [(0 : Int)]
    bif decide (v992.length + x997.length ≤ 8796093022208) then
      let x998 := v992 ++ x997
      next v988 v989 v990 v991 x998
    else
      none
  else
    k0 v989 v990 v991 v992
noncomputable def impl_natDiv_L2.b {α : Type} (N n : Nat) (v988 : List Int) (v989 : Int) (v990 : List Int) (v991 : Int) (v992 : List Int) (k0 : Int → List Int → Int → List Int → Option α) : Option α :=
  Nat.rec (motive := fun _ => List Int → Int → List Int → Int → List Int → Option α) (fun _ _ _ _ _ => none) (fun _ next => impl_natDiv_L2r N next k0) n v988 v989 v990 v991 v992
theorem impl_natDiv_L2.ex : ∃ f : ((α : Type) → Nat → Nat → List Int → Int → List Int → Int → List Int → (Int → List Int → Int → List Int → Option α) → Option α), f = fun α => @impl_natDiv_L2.b α := ⟨_, rfl⟩
noncomputable def impl_natDiv_L2 {α : Type} : Nat → Nat → List Int → Int → List Int → Int → List Int → (Int → List Int → Int → List Int → Option α) → Option α := Classical.choose impl_natDiv_L2.ex α
theorem impl_natDiv_L2.eq : @impl_natDiv_L2 = @impl_natDiv_L2.b := funext fun α => congrFun (Classical.choose_spec impl_natDiv_L2.ex) α
theorem impl_natDiv_L2.zero {α : Type} (N : Nat) (v988 : List Int) (v989 : Int) (v990 : List Int) (v991 : Int) (v992 : List Int) (k0 : Int → List Int → Int → List Int → Option α) : impl_natDiv_L2 N 0 v988 v989 v990 v991 v992 k0 = none := by rw [impl_natDiv_L2.eq]; rfl
theorem impl_natDiv_L2.succ {α : Type} (N n : Nat) (v988 : List Int) (v989 : Int) (v990 : List Int) (v991 : Int) (v992 : List Int) (k0 : Int → List Int → Int → List Int → Option α) : impl_natDiv_L2 N (n + 1) v988 v989 v990 v991 v992 k0 = impl_natDiv_L2r N (fun y0 y1 y2 y3 y4 => impl_natDiv_L2 N n y0 y1 y2 y3 y4 k0) k0 v988 v989 v990 v991 v992 := by rw [impl_natDiv_L2.eq]; rfl
noncomputable def impl_natDiv_L6r {α : Type} (N : Nat) (next : Int → List Int → Int → Int → Int → Int → List Int → List Int → Option α) (k0 : Int → List Int → Int → Int → Int → List Int → List Int → Option α) (v1029 : Int) (v1030 : List Int) (v1031 : Int) (v1032 : Int) (v1033 : Int) (v1034 : Int) (v1035 : List Int) (v1036 : List Int) : Option α :=
  let x1037 := (decide ((65536 : Int) ≤ v1033))
  bif x1037 then
    let x1038 := (IntKind.i64.wrap (v1033 - (1 : Int)))
    let x1039 := (IntKind.i64.wrap (v1031 - (1 : Int)))
    bif (decide (x1039 < (0 : Int))) then
      none
    else
      match v1030[x1039.toNat]? with
      | some x1040 =>
        let x1041 := IntKind.i64.wrap (v1034 + x1040)
        let x1042 := (decide ((65536 : Int) ≤ x1041))
        bif x1042 then
          k0 v1029 v1030 v1031 v1032 x1038 v1035 v1036
        else
          next v1029 v1030 v1031 v1032 x1038 x1041 v1035 v1036
      | none => none
  else
    let x1043 := (IntKind.i64.wrap (v1031 - (2 : Int)))
    bif (decide (x1043 < (0 : Int))) then
      none
    else
      match v1030[x1043.toNat]? with
      | some x1044 =>
        let x1045 := IntKind.i64.wrap (v1033 * x1044)
        let x1046 := (shlI .i64 v1034 (16 : Int))
        let x1047 := IntKind.i64.wrap (v1032 + v1031)
        let x1048 := (IntKind.i64.wrap (x1047 - (2 : Int)))
        bif (decide (x1048 < (0 : Int))) then
          none
        else
          bif decide (x1048.toNat < v1035.length) then
            match v1035[x1048.toNat]? with
            | some x1049 =>
              let x1050 := bitI .or .i64 x1046 x1049
              let x1051 := decide (x1050 < x1045)
              bif x1051 then
                let x1052 := (IntKind.i64.wrap (v1033 - (1 : Int)))
                let x1053 := (IntKind.i64.wrap (v1031 - (1 : Int)))
                bif (decide (x1053 < (0 : Int))) then
                  none
                else
                  match v1030[x1053.toNat]? with
                  | some x1054 =>
                    let x1055 := IntKind.i64.wrap (v1034 + x1054)
                    let x1056 := (decide ((65536 : Int) ≤ x1055))
                    bif x1056 then
                      k0 v1029 v1030 v1031 v1032 x1052 v1035 v1036
                    else
                      next v1029 v1030 v1031 v1032 x1052 x1055 v1035 v1036
                  | none => none
              else
                k0 v1029 v1030 v1031 v1032 v1033 v1035 v1036
            | none => none
          else
            none
      | none => none
noncomputable def impl_natDiv_L6.b {α : Type} (N n : Nat) (v1029 : Int) (v1030 : List Int) (v1031 : Int) (v1032 : Int) (v1033 : Int) (v1034 : Int) (v1035 : List Int) (v1036 : List Int) (k0 : Int → List Int → Int → Int → Int → List Int → List Int → Option α) : Option α :=
  Nat.rec (motive := fun _ => Int → List Int → Int → Int → Int → Int → List Int → List Int → Option α) (fun _ _ _ _ _ _ _ _ => none) (fun _ next => impl_natDiv_L6r N next k0) n v1029 v1030 v1031 v1032 v1033 v1034 v1035 v1036
theorem impl_natDiv_L6.ex : ∃ f : ((α : Type) → Nat → Nat → Int → List Int → Int → Int → Int → Int → List Int → List Int → (Int → List Int → Int → Int → Int → List Int → List Int → Option α) → Option α), f = fun α => @impl_natDiv_L6.b α := ⟨_, rfl⟩
noncomputable def impl_natDiv_L6 {α : Type} : Nat → Nat → Int → List Int → Int → Int → Int → Int → List Int → List Int → (Int → List Int → Int → Int → Int → List Int → List Int → Option α) → Option α := Classical.choose impl_natDiv_L6.ex α
theorem impl_natDiv_L6.eq : @impl_natDiv_L6 = @impl_natDiv_L6.b := funext fun α => congrFun (Classical.choose_spec impl_natDiv_L6.ex) α
theorem impl_natDiv_L6.zero {α : Type} (N : Nat) (v1029 : Int) (v1030 : List Int) (v1031 : Int) (v1032 : Int) (v1033 : Int) (v1034 : Int) (v1035 : List Int) (v1036 : List Int) (k0 : Int → List Int → Int → Int → Int → List Int → List Int → Option α) : impl_natDiv_L6 N 0 v1029 v1030 v1031 v1032 v1033 v1034 v1035 v1036 k0 = none := by rw [impl_natDiv_L6.eq]; rfl
theorem impl_natDiv_L6.succ {α : Type} (N n : Nat) (v1029 : Int) (v1030 : List Int) (v1031 : Int) (v1032 : Int) (v1033 : Int) (v1034 : Int) (v1035 : List Int) (v1036 : List Int) (k0 : Int → List Int → Int → Int → Int → List Int → List Int → Option α) : impl_natDiv_L6 N (n + 1) v1029 v1030 v1031 v1032 v1033 v1034 v1035 v1036 k0 = impl_natDiv_L6r N (fun y0 y1 y2 y3 y4 y5 y6 y7 => impl_natDiv_L6 N n y0 y1 y2 y3 y4 y5 y6 y7 k0) k0 v1029 v1030 v1031 v1032 v1033 v1034 v1035 v1036 := by rw [impl_natDiv_L6.eq]; rfl
noncomputable def impl_natDiv_J34.b {α : Type} (N : Nat) (v1083 : Int) (v1084 : List Int) (v1085 : Int) (v1086 : Int) (v1087 : Int) (v1088 : Int) (v1089 : Int) (v1090 : Int) (v1091 : List Int) (v1092 : Int) (v1093 : Int) (v1094 : List Int) (v1095 : List Int) (k0 : Int → List Int → Int → Int → Int → Int → Int → Int → List Int → Int → Int → List Int → List Int → Option α) : Option α :=
  let x1096 := (decide (v1090 < (0 : Int)))
  bif x1096 then
    let x1097 := IntKind.i64.wrap (0 - v1090)
    let x1098 := (IntKind.i64.wrap (x1097 + (65536 : Int)))
    let x1099 := (IntKind.i64.wrap (x1098 - (1 : Int)))
    let x1100 := (IntKind.i64.wrap (Int.tdiv x1099 (65536 : Int)))
    let x1101 := (IntKind.i64.wrap (x1100 * (65536 : Int)))
    let x1102 := IntKind.i64.wrap (v1090 + x1101)
    k0 v1083 v1084 v1085 v1086 v1087 x1100 v1089 x1102 v1091 v1092 v1093 v1094 v1095
  else
    k0 v1083 v1084 v1085 v1086 v1087 v1088 v1089 v1090 v1091 v1092 v1093 v1094 v1095
theorem impl_natDiv_J34.ex : ∃ f : ((α : Type) → Nat → Int → List Int → Int → Int → Int → Int → Int → Int → List Int → Int → Int → List Int → List Int → (Int → List Int → Int → Int → Int → Int → Int → Int → List Int → Int → Int → List Int → List Int → Option α) → Option α), f = fun α => @impl_natDiv_J34.b α := ⟨_, rfl⟩
noncomputable def impl_natDiv_J34 {α : Type} : Nat → Int → List Int → Int → Int → Int → Int → Int → Int → List Int → Int → Int → List Int → List Int → (Int → List Int → Int → Int → Int → Int → Int → Int → List Int → Int → Int → List Int → List Int → Option α) → Option α := Classical.choose impl_natDiv_J34.ex α
theorem impl_natDiv_J34.eq : @impl_natDiv_J34 = @impl_natDiv_J34.b := funext fun α => congrFun (Classical.choose_spec impl_natDiv_J34.ex) α
noncomputable def impl_natDiv_L8r {α : Type} (N : Nat) (next : Int → List Int → Int → Int → Int → Int → List Int → Int → Int → List Int → List Int → Option α) (k0 : Int → List Int → Int → Int → Int → Int → List Int → List Int → Option α) (v1065 : Int) (v1066 : List Int) (v1067 : Int) (v1068 : Int) (v1069 : Int) (v1070 : Int) (v1071 : List Int) (v1072 : Int) (v1073 : Int) (v1074 : List Int) (v1075 : List Int) : Option α :=
  let x1076 := decide (v1073 < v1072)
  bif x1076 then
    bif (decide (v1073 < (0 : Int))) then
      none
    else
      match v1071[v1073.toNat]? with
      | some x1077 =>
        let x1078 := IntKind.i64.wrap (v1068 + v1073)
        bif (decide (x1078 < (0 : Int))) then
          none
        else
          bif decide (x1078.toNat < v1074.length) then
            match v1074[x1078.toNat]? with
            | some x1079 =>
              let x1080 := IntKind.i64.wrap (x1079 - v1070)
              let x1081 := IntKind.i64.wrap (v1069 * x1077)
              let x1082 := IntKind.i64.wrap (x1080 - x1081)
              impl_natDiv_J34 N v1065 v1066 v1067 v1068 v1069 (0 : Int) v1073 x1082 v1071 v1072 v1073 v1074 v1075
                (fun x1103 x1104 x1105 x1106 x1107 x1108 x1109 x1110 x1111 x1112 x1113 x1114 x1115 =>
                  let x1116 := IntKind.i64.wrap (x1106 + x1109)
                  bif (decide (x1116 < (0 : Int))) then
                    none
                  else
                    bif decide (x1116.toNat < x1114.length) then
                      match x1114[x1116.toNat]? with
                      | some x1117 =>
                        let x1118 := x1114.set x1116.toNat x1110
                        let x1119 := (IntKind.i64.wrap (x1113 + (1 : Int)))
                        next x1103 x1104 x1105 x1106 x1107 x1108 x1111 x1112 x1119 x1118 x1115
                      | none => none
                    else
                      none)
            | none => none
          else
            none
      | none => none
  else
    k0 v1065 v1066 v1067 v1068 v1069 v1070 v1074 v1075
noncomputable def impl_natDiv_L8.b {α : Type} (N n : Nat) (v1065 : Int) (v1066 : List Int) (v1067 : Int) (v1068 : Int) (v1069 : Int) (v1070 : Int) (v1071 : List Int) (v1072 : Int) (v1073 : Int) (v1074 : List Int) (v1075 : List Int) (k0 : Int → List Int → Int → Int → Int → Int → List Int → List Int → Option α) : Option α :=
  Nat.rec (motive := fun _ => Int → List Int → Int → Int → Int → Int → List Int → Int → Int → List Int → List Int → Option α) (fun _ _ _ _ _ _ _ _ _ _ _ => none) (fun _ next => impl_natDiv_L8r N next k0) n v1065 v1066 v1067 v1068 v1069 v1070 v1071 v1072 v1073 v1074 v1075
theorem impl_natDiv_L8.ex : ∃ f : ((α : Type) → Nat → Nat → Int → List Int → Int → Int → Int → Int → List Int → Int → Int → List Int → List Int → (Int → List Int → Int → Int → Int → Int → List Int → List Int → Option α) → Option α), f = fun α => @impl_natDiv_L8.b α := ⟨_, rfl⟩
noncomputable def impl_natDiv_L8 {α : Type} : Nat → Nat → Int → List Int → Int → Int → Int → Int → List Int → Int → Int → List Int → List Int → (Int → List Int → Int → Int → Int → Int → List Int → List Int → Option α) → Option α := Classical.choose impl_natDiv_L8.ex α
theorem impl_natDiv_L8.eq : @impl_natDiv_L8 = @impl_natDiv_L8.b := funext fun α => congrFun (Classical.choose_spec impl_natDiv_L8.ex) α
theorem impl_natDiv_L8.zero {α : Type} (N : Nat) (v1065 : Int) (v1066 : List Int) (v1067 : Int) (v1068 : Int) (v1069 : Int) (v1070 : Int) (v1071 : List Int) (v1072 : Int) (v1073 : Int) (v1074 : List Int) (v1075 : List Int) (k0 : Int → List Int → Int → Int → Int → Int → List Int → List Int → Option α) : impl_natDiv_L8 N 0 v1065 v1066 v1067 v1068 v1069 v1070 v1071 v1072 v1073 v1074 v1075 k0 = none := by rw [impl_natDiv_L8.eq]; rfl
theorem impl_natDiv_L8.succ {α : Type} (N n : Nat) (v1065 : Int) (v1066 : List Int) (v1067 : Int) (v1068 : Int) (v1069 : Int) (v1070 : Int) (v1071 : List Int) (v1072 : Int) (v1073 : Int) (v1074 : List Int) (v1075 : List Int) (k0 : Int → List Int → Int → Int → Int → Int → List Int → List Int → Option α) : impl_natDiv_L8 N (n + 1) v1065 v1066 v1067 v1068 v1069 v1070 v1071 v1072 v1073 v1074 v1075 k0 = impl_natDiv_L8r N (fun y0 y1 y2 y3 y4 y5 y6 y7 y8 y9 y10 => impl_natDiv_L8 N n y0 y1 y2 y3 y4 y5 y6 y7 y8 y9 y10 k0) k0 v1065 v1066 v1067 v1068 v1069 v1070 v1071 v1072 v1073 v1074 v1075 := by rw [impl_natDiv_L8.eq]; rfl
noncomputable def impl_natDiv_L10r {α : Type} (N : Nat) (next : Int → List Int → Int → Int → Int → Int → List Int → Int → Int → List Int → List Int → Option α) (k0 : Int → List Int → Int → Int → Int → Int → List Int → List Int → Option α) (v1145 : Int) (v1146 : List Int) (v1147 : Int) (v1148 : Int) (v1149 : Int) (v1150 : Int) (v1151 : List Int) (v1152 : Int) (v1153 : Int) (v1154 : List Int) (v1155 : List Int) : Option α :=
  let x1156 := decide (v1153 < v1152)
  bif x1156 then
    bif (decide (v1153 < (0 : Int))) then
      none
    else
      match v1151[v1153.toNat]? with
      | some x1157 =>
        let x1158 := IntKind.i64.wrap (v1148 + v1153)
        bif (decide (x1158 < (0 : Int))) then
          none
        else
          bif decide (x1158.toNat < v1154.length) then
            match v1154[x1158.toNat]? with
            | some x1159 =>
              let x1160 := IntKind.i64.wrap (x1159 + x1157)
              let x1161 := IntKind.i64.wrap (x1160 + v1150)
              let x1162 := IntKind.i64.wrap (v1148 + v1153)
              let x1163 := (bitI .and .i64 x1161 (65535 : Int))
              let x1164 := (shrI .i64 x1161 (16 : Int))
              bif (decide (x1162 < (0 : Int))) then
                none
              else
                bif decide (x1162.toNat < v1154.length) then
                  match v1154[x1162.toNat]? with
                  | some x1165 =>
                    let x1166 := v1154.set x1162.toNat x1163
                    let x1167 := (IntKind.i64.wrap (v1153 + (1 : Int)))
                    next v1145 v1146 v1147 v1148 v1149 x1164 v1151 v1152 x1167 x1166 v1155
                  | none => none
                else
                  none
            | none => none
          else
            none
      | none => none
  else
    k0 v1145 v1146 v1147 v1148 v1149 v1150 v1154 v1155
noncomputable def impl_natDiv_L10.b {α : Type} (N n : Nat) (v1145 : Int) (v1146 : List Int) (v1147 : Int) (v1148 : Int) (v1149 : Int) (v1150 : Int) (v1151 : List Int) (v1152 : Int) (v1153 : Int) (v1154 : List Int) (v1155 : List Int) (k0 : Int → List Int → Int → Int → Int → Int → List Int → List Int → Option α) : Option α :=
  Nat.rec (motive := fun _ => Int → List Int → Int → Int → Int → Int → List Int → Int → Int → List Int → List Int → Option α) (fun _ _ _ _ _ _ _ _ _ _ _ => none) (fun _ next => impl_natDiv_L10r N next k0) n v1145 v1146 v1147 v1148 v1149 v1150 v1151 v1152 v1153 v1154 v1155
theorem impl_natDiv_L10.ex : ∃ f : ((α : Type) → Nat → Nat → Int → List Int → Int → Int → Int → Int → List Int → Int → Int → List Int → List Int → (Int → List Int → Int → Int → Int → Int → List Int → List Int → Option α) → Option α), f = fun α => @impl_natDiv_L10.b α := ⟨_, rfl⟩
noncomputable def impl_natDiv_L10 {α : Type} : Nat → Nat → Int → List Int → Int → Int → Int → Int → List Int → Int → Int → List Int → List Int → (Int → List Int → Int → Int → Int → Int → List Int → List Int → Option α) → Option α := Classical.choose impl_natDiv_L10.ex α
theorem impl_natDiv_L10.eq : @impl_natDiv_L10 = @impl_natDiv_L10.b := funext fun α => congrFun (Classical.choose_spec impl_natDiv_L10.ex) α
theorem impl_natDiv_L10.zero {α : Type} (N : Nat) (v1145 : Int) (v1146 : List Int) (v1147 : Int) (v1148 : Int) (v1149 : Int) (v1150 : Int) (v1151 : List Int) (v1152 : Int) (v1153 : Int) (v1154 : List Int) (v1155 : List Int) (k0 : Int → List Int → Int → Int → Int → Int → List Int → List Int → Option α) : impl_natDiv_L10 N 0 v1145 v1146 v1147 v1148 v1149 v1150 v1151 v1152 v1153 v1154 v1155 k0 = none := by rw [impl_natDiv_L10.eq]; rfl
theorem impl_natDiv_L10.succ {α : Type} (N n : Nat) (v1145 : Int) (v1146 : List Int) (v1147 : Int) (v1148 : Int) (v1149 : Int) (v1150 : Int) (v1151 : List Int) (v1152 : Int) (v1153 : Int) (v1154 : List Int) (v1155 : List Int) (k0 : Int → List Int → Int → Int → Int → Int → List Int → List Int → Option α) : impl_natDiv_L10 N (n + 1) v1145 v1146 v1147 v1148 v1149 v1150 v1151 v1152 v1153 v1154 v1155 k0 = impl_natDiv_L10r N (fun y0 y1 y2 y3 y4 y5 y6 y7 y8 y9 y10 => impl_natDiv_L10 N n y0 y1 y2 y3 y4 y5 y6 y7 y8 y9 y10 k0) k0 v1145 v1146 v1147 v1148 v1149 v1150 v1151 v1152 v1153 v1154 v1155 := by rw [impl_natDiv_L10.eq]; rfl
noncomputable def impl_natDiv_J40.b {α : Type} (N : Nat) (v1133 : Int) (v1134 : List Int) (v1135 : Int) (v1136 : Int) (v1137 : Int) (v1138 : List Int) (v1139 : List Int) (k0 : Int → List Int → Int → Int → Int → List Int → List Int → Option α) : Option α :=
  let x1140 := IntKind.i64.wrap (v1136 + v1135)
  bif (decide (x1140 < (0 : Int))) then
    none
  else
    bif decide (x1140.toNat < v1138.length) then
      match v1138[x1140.toNat]? with
      | some x1141 =>
        let x1142 := (decide (x1141 < (0 : Int)))
        bif x1142 then
          let x1143 := (IntKind.i64.wrap (v1137 - (1 : Int)))
          let x1144 := ((v1134.length : Nat) : Int)
          impl_natDiv_L10 N N v1133 v1134 v1135 v1136 x1143 (0 : Int) v1134 x1144 (0 : Int) v1138 v1139
            (fun x1168 x1169 x1170 x1171 x1172 x1173 x1174 x1175 =>
              let x1176 := IntKind.i64.wrap (x1171 + x1170)
              bif (decide (x1176 < (0 : Int))) then
                none
              else
                bif decide (x1176.toNat < x1174.length) then
                  match x1174[x1176.toNat]? with
                  | some x1177 =>
                    let x1178 := IntKind.i64.wrap (x1177 + x1173)
                    bif (decide (x1176 < (0 : Int))) then
                      none
                    else
                      bif decide (x1176.toNat < x1174.length) then
                        match x1174[x1176.toNat]? with
                        | some x1179 =>
                          let x1180 := x1174.set x1176.toNat x1178
                          k0 x1168 x1169 x1170 x1171 x1172 x1180 x1175
                        | none => none
                      else
                        none
                  | none => none
                else
                  none)
        else
          k0 v1133 v1134 v1135 v1136 v1137 v1138 v1139
      | none => none
    else
      none
theorem impl_natDiv_J40.ex : ∃ f : ((α : Type) → Nat → Int → List Int → Int → Int → Int → List Int → List Int → (Int → List Int → Int → Int → Int → List Int → List Int → Option α) → Option α), f = fun α => @impl_natDiv_J40.b α := ⟨_, rfl⟩
noncomputable def impl_natDiv_J40 {α : Type} : Nat → Int → List Int → Int → Int → Int → List Int → List Int → (Int → List Int → Int → Int → Int → List Int → List Int → Option α) → Option α := Classical.choose impl_natDiv_J40.ex α
theorem impl_natDiv_J40.eq : @impl_natDiv_J40 = @impl_natDiv_J40.b := funext fun α => congrFun (Classical.choose_spec impl_natDiv_J40.ex) α
noncomputable def impl_natDiv_L4r {α : Type} (N : Nat) (next : Int → List Int → Int → Int → List Int → List Int → Option α) (k0 : Int → List Int → List Int → Option α) (v1009 : Int) (v1010 : List Int) (v1011 : Int) (v1012 : Int) (v1013 : List Int) (v1014 : List Int) : Option α :=
  let x1015 := (decide ((0 : Int) ≤ v1012))
  bif x1015 then
    let x1016 := IntKind.i64.wrap (v1012 + v1011)
    bif (decide (x1016 < (0 : Int))) then
      none
    else
      bif decide (x1016.toNat < v1013.length) then
        match v1013[x1016.toNat]? with
        | some x1017 =>
          let x1018 := (shlI .i64 x1017 (16 : Int))
          let x1019 := IntKind.i64.wrap (v1012 + v1011)
          let x1020 := (IntKind.i64.wrap (x1019 - (1 : Int)))
          bif (decide (x1020 < (0 : Int))) then
            none
          else
            bif decide (x1020.toNat < v1013.length) then
              match v1013[x1020.toNat]? with
              | some x1021 =>
                let x1022 := bitI .or .i64 x1018 x1021
                let x1023 := (IntKind.i64.wrap (v1011 - (1 : Int)))
                bif (decide (x1023 < (0 : Int))) then
                  none
                else
                  match v1010[x1023.toNat]? with
                  | some x1024 =>
                    bif (decide (x1024 = (0 : Int))) then
                      none
                    else
                      let x1025 := IntKind.i64.wrap (Int.tdiv x1022 x1024)
                      let x1026 := (IntKind.i64.wrap (v1011 - (1 : Int)))
                      bif (decide (x1026 < (0 : Int))) then
                        none
                      else
                        match v1010[x1026.toNat]? with
                        | some x1027 =>
                          bif (decide (x1027 = (0 : Int))) then
                            none
                          else
                            let x1028 := Int.tmod x1022 x1027
                            impl_natDiv_L6 N N v1009 v1010 v1011 v1012 x1025 x1028 v1013 v1014
                              (fun x1057 x1058 x1059 x1060 x1061 x1062 x1063 =>
                                let x1064 := ((x1058.length : Nat) : Int)
                                impl_natDiv_L8 N N x1057 x1058 x1059 x1060 x1061 (0 : Int) x1058 x1064 (0 : Int) x1062 x1063
                                  (fun x1120 x1121 x1122 x1123 x1124 x1125 x1126 x1127 =>
                                    let x1128 := IntKind.i64.wrap (x1123 + x1122)
                                    bif (decide (x1128 < (0 : Int))) then
                                      none
                                    else
                                      bif decide (x1128.toNat < x1126.length) then
                                        match x1126[x1128.toNat]? with
                                        | some x1129 =>
                                          let x1130 := IntKind.i64.wrap (x1129 - x1125)
                                          bif (decide (x1128 < (0 : Int))) then
                                            none
                                          else
                                            bif decide (x1128.toNat < x1126.length) then
                                              match x1126[x1128.toNat]? with
                                              | some x1131 =>
                                                let x1132 := x1126.set x1128.toNat x1130
                                                impl_natDiv_J40 N x1120 x1121 x1122 x1123 x1124 x1132 x1127
                                                  (fun x1181 x1182 x1183 x1184 x1185 x1186 x1187 =>
                                                    bif (decide (x1184 < (0 : Int))) then
                                                      none
                                                    else
                                                      bif decide (x1184.toNat < x1187.length) then
                                                        match x1187[x1184.toNat]? with
                                                        | some x1188 =>
                                                          let x1189 := x1187.set x1184.toNat x1185
                                                          let x1190 := (IntKind.i64.wrap (x1184 - (1 : Int)))
                                                          next x1181 x1182 x1183 x1190 x1186 x1189
                                                        | none => none
                                                      else
                                                        none)
                                              | none => none
                                            else
                                              none
                                        | none => none
                                      else
                                        none))
                        | none => none
                  | none => none
              | none => none
            else
              none
        | none => none
      else
        none
  else
    k0 v1009 v1013 v1014
noncomputable def impl_natDiv_L4.b {α : Type} (N n : Nat) (v1009 : Int) (v1010 : List Int) (v1011 : Int) (v1012 : Int) (v1013 : List Int) (v1014 : List Int) (k0 : Int → List Int → List Int → Option α) : Option α :=
  Nat.rec (motive := fun _ => Int → List Int → Int → Int → List Int → List Int → Option α) (fun _ _ _ _ _ _ => none) (fun _ next => impl_natDiv_L4r N next k0) n v1009 v1010 v1011 v1012 v1013 v1014
theorem impl_natDiv_L4.ex : ∃ f : ((α : Type) → Nat → Nat → Int → List Int → Int → Int → List Int → List Int → (Int → List Int → List Int → Option α) → Option α), f = fun α => @impl_natDiv_L4.b α := ⟨_, rfl⟩
noncomputable def impl_natDiv_L4 {α : Type} : Nat → Nat → Int → List Int → Int → Int → List Int → List Int → (Int → List Int → List Int → Option α) → Option α := Classical.choose impl_natDiv_L4.ex α
theorem impl_natDiv_L4.eq : @impl_natDiv_L4 = @impl_natDiv_L4.b := funext fun α => congrFun (Classical.choose_spec impl_natDiv_L4.ex) α
theorem impl_natDiv_L4.zero {α : Type} (N : Nat) (v1009 : Int) (v1010 : List Int) (v1011 : Int) (v1012 : Int) (v1013 : List Int) (v1014 : List Int) (k0 : Int → List Int → List Int → Option α) : impl_natDiv_L4 N 0 v1009 v1010 v1011 v1012 v1013 v1014 k0 = none := by rw [impl_natDiv_L4.eq]; rfl
theorem impl_natDiv_L4.succ {α : Type} (N n : Nat) (v1009 : Int) (v1010 : List Int) (v1011 : Int) (v1012 : Int) (v1013 : List Int) (v1014 : List Int) (k0 : Int → List Int → List Int → Option α) : impl_natDiv_L4 N (n + 1) v1009 v1010 v1011 v1012 v1013 v1014 k0 = impl_natDiv_L4r N (fun y0 y1 y2 y3 y4 y5 => impl_natDiv_L4 N n y0 y1 y2 y3 y4 y5 k0) k0 v1009 v1010 v1011 v1012 v1013 v1014 := by rw [impl_natDiv_L4.eq]; rfl
/-- loop.example/pinfold/impl.natDiv -/
noncomputable def impl_natDiv.b {α : Type} (N : Nat) (a742 : List Int) (a743 : List Int) (k0 : List Int → List Int → Option α) : Option α :=
  impl_natCmp N a742 a743
    (fun x770 =>
      let x771 := (decide (x770 < (0 : Int)))
      bif x771 then
        k0 [] a742
      else
        let x772 := ((a743.length : Nat) : Int)
        let x773 := (decide (x772 = (1 : Int)))
        bif x773 then
          let x774 := ((a742.length : Nat) : Int)
          bif (decide ((0 : Int) ≤ x774)) then
            bif decide (x774 ≤ x774) then
              bif (decide (x774 ≤ ((8796093022208 : Nat) : Int))) then
                let x775 := (List.replicate x774.toNat (0 : Int))
                let x776 := ((a742.length : Nat) : Int)
                let x777 := (IntKind.i64.wrap (x776 - (1 : Int)))
                impl_natDiv_L0 N N a742 a743 (0 : Int) x777 x775
                  (fun x794 x795 =>
                    impl_trim N x795
                      (fun x808 =>
                        let x809 := [x794]
                        impl_trim N x809
                          (fun x810 =>
                            k0 x808 x810)))
              else
                none
            else
              none
          else
            none
        else
          let x811 := ((a743.length : Nat) : Int)
          let x812 := (IntKind.i64.wrap (x811 - (1 : Int)))
          bif (decide (x812 < (0 : Int))) then
            none
          else
            match a743[x812.toNat]? with
            | some x813 =>
              let x814 := IntKind.u64.wrap x813
              math_bits_Len N x814
                (fun x843 =>
                  let x844 := (IntKind.i64.wrap ((16 : Int) - x843))
                  impl_natShift N a743 x844
                    (fun x982 =>
                      impl_natShift N a742 x844
                        (fun x983 =>
                          slices_Clone_int_int N x983
                            (fun x984 =>
                              let x985 := [(0 : Int)]
                              bif decide (x984.length + x985.length ≤ 8796093022208) then
                                let x986 := x984 ++ x985
                                let x987 := ((x982.length : Nat) : Int)
                                impl_natDiv_L2 N N a742 x844 x982 x987 x986
                                  (fun x999 x1000 x1001 x1002 =>
                                    let x1003 := ((x1002.length : Nat) : Int)
                                    let x1004 := IntKind.i64.wrap (x1003 - x1001)
                                    bif (decide ((0 : Int) ≤ x1004)) then
                                      bif decide (x1004 ≤ x1004) then
                                        bif (decide (x1004 ≤ ((8796093022208 : Nat) : Int))) then
                                          let x1005 := (List.replicate x1004.toNat (0 : Int))
                                          let x1006 := ((x1002.length : Nat) : Int)
                                          let x1007 := IntKind.i64.wrap (x1006 - x1001)
                                          let x1008 := (IntKind.i64.wrap (x1007 - (1 : Int)))
                                          impl_natDiv_L4 N N x999 x1000 x1001 x1008 x1002 x1005
                                            (fun x1191 x1192 x1193 =>
                                              impl_trim N x1193
                                                (fun x1194 =>
                                                  impl_trim N x1192
                                                    (fun x1195 =>
                                                      let x1196 := IntKind.i64.wrap (0 - x1191)
                                                      impl_natShift N x1195 x1196
                                                        (fun x1197 =>
                                                          k0 x1194 x1197))))
                                        else
                                          none
                                      else
                                        none
                                    else
                                      none)
                              else
                                none))))
            | none => none)
theorem impl_natDiv.ex : ∃ f : ((α : Type) → Nat → List Int → List Int → (List Int → List Int → Option α) → Option α), f = fun α => @impl_natDiv.b α := ⟨_, rfl⟩
noncomputable def impl_natDiv {α : Type} : Nat → List Int → List Int → (List Int → List Int → Option α) → Option α := Classical.choose impl_natDiv.ex α
theorem impl_natDiv.eq : @impl_natDiv = @impl_natDiv.b := funext fun α => congrFun (Classical.choose_spec impl_natDiv.ex) α

noncomputable def impl_natGcd_L0r {α : Type} (N : Nat) (next : List Int → List Int → Option α) (k0 : List Int → Option α) (v669 : List Int) (v670 : List Int) : Option α :=
  let x671 := ((v670.length : Nat) : Int)
  let x672 := (decide ((0 : Int) < x671))
  bif x672 then
    impl_natDiv N v669 v670
      (fun _ x1199 =>
        next v670 x1199)
  else
    k0 v669
noncomputable def impl_natGcd_L0.b {α : Type} (N n : Nat) (v669 : List Int) (v670 : List Int) (k0 : List Int → Option α) : Option α :=
  Nat.rec (motive := fun _ => List Int → List Int → Option α) (fun _ _ => none) (fun _ next => impl_natGcd_L0r N next k0) n v669 v670
theorem impl_natGcd_L0.ex : ∃ f : ((α : Type) → Nat → Nat → List Int → List Int → (List Int → Option α) → Option α), f = fun α => @impl_natGcd_L0.b α := ⟨_, rfl⟩
noncomputable def impl_natGcd_L0 {α : Type} : Nat → Nat → List Int → List Int → (List Int → Option α) → Option α := Classical.choose impl_natGcd_L0.ex α
theorem impl_natGcd_L0.eq : @impl_natGcd_L0 = @impl_natGcd_L0.b := funext fun α => congrFun (Classical.choose_spec impl_natGcd_L0.ex) α
theorem impl_natGcd_L0.zero {α : Type} (N : Nat) (v669 : List Int) (v670 : List Int) (k0 : List Int → Option α) : impl_natGcd_L0 N 0 v669 v670 k0 = none := by rw [impl_natGcd_L0.eq]; rfl
theorem impl_natGcd_L0.succ {α : Type} (N n : Nat) (v669 : List Int) (v670 : List Int) (k0 : List Int → Option α) : impl_natGcd_L0 N (n + 1) v669 v670 k0 = impl_natGcd_L0r N (fun y0 y1 => impl_natGcd_L0 N n y0 y1 k0) k0 v669 v670 := by rw [impl_natGcd_L0.eq]; rfl
/-- loop.example/pinfold/impl.natGcd -/
noncomputable def impl_natGcd.b {α : Type} (N : Nat) (a667 : List Int) (a668 : List Int) (k0 : List Int → Option α) : Option α :=
  impl_natGcd_L0 N N a667 a668
    (fun x1200 =>
      k0 x1200)
theorem impl_natGcd.ex : ∃ f : ((α : Type) → Nat → List Int → List Int → (List Int → Option α) → Option α), f = fun α => @impl_natGcd.b α := ⟨_, rfl⟩
noncomputable def impl_natGcd {α : Type} : Nat → List Int → List Int → (List Int → Option α) → Option α := Classical.choose impl_natGcd.ex α
theorem impl_natGcd.eq : @impl_natGcd = @impl_natGcd.b := funext fun α => congrFun (Classical.choose_spec impl_natGcd.ex) α

/-- loop.example/pinfold/impl.FracOk -/
noncomputable def impl_FracOk.b {α : Type} (N : Nat) (a612 : Bool × (List Int) × (List Int) × Unit) (k0 : Bool → Option α) : Option α :=
  let x613 := [a612.2.1, a612.2.2.1]
  impl_nats N x613
    (fun x662 =>
      bif x662 then
        let x663 := ((a612.2.2.1.length : Nat) : Int)
        let x664 := (decide ((0 : Int) < x663))
        bif x664 then
          let x665 := ((a612.2.1.length : Nat) : Int)
          let x666 := (decide ((0 : Int) < x665))
          bif x666 then
            impl_natGcd N a612.2.1 a612.2.2.1
              (fun x1201 =>
                let x1202 := [(1 : Int)]
                impl_natCmp N x1201 x1202
                  (fun x1203 =>
                    let x1204 := (decide (x1203 = (0 : Int)))
                    k0 x1204))
          else
            let x1205 := !a612.1
            bif x1205 then
              impl_natGcd N a612.2.1 a612.2.2.1
                (fun x1206 =>
                  let x1207 := [(1 : Int)]
                  impl_natCmp N x1206 x1207
                    (fun x1208 =>
                      let x1209 := (decide (x1208 = (0 : Int)))
                      k0 x1209))
            else
              k0 false
        else
          k0 false
      else
        k0 false)
theorem impl_FracOk.ex : ∃ f : ((α : Type) → Nat → (Bool × (List Int) × (List Int) × Unit) → (Bool → Option α) → Option α), f = fun α => @impl_FracOk.b α := ⟨_, rfl⟩
noncomputable def impl_FracOk {α : Type} : Nat → (Bool × (List Int) × (List Int) × Unit) → (Bool → Option α) → Option α := Classical.choose impl_FracOk.ex α
theorem impl_FracOk.eq : @impl_FracOk = @impl_FracOk.b := funext fun α => congrFun (Classical.choose_spec impl_FracOk.ex) α

/-- loop.example/pinfold/impl.size -/
noncomputable def impl_size.b {α : Type} (N : Nat) (a1304 : Int) (k0 : Int → Option α) : Option α :=
  let x1305 := IntKind.i64.wrap (0 - a1304)
  let x1306 := maxI a1304 x1305
  k0 x1306
theorem impl_size.ex : ∃ f : ((α : Type) → Nat → Int → (Int → Option α) → Option α), f = fun α => @impl_size.b α := ⟨_, rfl⟩
noncomputable def impl_size {α : Type} : Nat → Int → (Int → Option α) → Option α := Classical.choose impl_size.ex α
theorem impl_size.eq : @impl_size = @impl_size.b := funext fun α => congrFun (Classical.choose_spec impl_size.ex) α

/-- loop.example/pinfold/impl.BitPartOf -/
noncomputable def impl_BitPartOf.b {α : Type} (N : Nat) (a1298 : Int) (a1299 : Int) (k0 : (Bool × Int × Int × Unit) → Bool → Option α) : Option α :=
  impl_formatOf N a1298
    (fun x1300 _ =>
      impl_BitOk N a1298 a1299
        (fun x1302 =>
          let x1303 := !x1302
          bif x1303 then
            k0 (false, ((0 : Int), ((0 : Int), ()))) false
          else
            impl_size N a1299
              (fun x1307 =>
                let x1308 := decide (x1307 = x1300.2.2.2.1)
                bif x1308 then
                  k0 (false, ((0 : Int), ((0 : Int), ()))) false
                else
                  impl_size N a1299
                    (fun x1309 =>
                      bif (decide (x1300.1 < (0 : Int))) then
                        none
                      else
                        let x1310 := (shlI .i64 (1 : Int) x1300.1)
                        let x1311 := (IntKind.i64.wrap (x1310 - (1 : Int)))
                        let x1312 := bitI .and .i64 x1309 x1311
                        impl_size N a1299
                          (fun x1313 =>
                            bif (decide (x1300.1 < (0 : Int))) then
                              none
                            else
                              let x1314 := shrI .i64 x1313 x1300.1
                              let x1315 := (decide (x1314 = (0 : Int)))
                              bif x1315 then
                                let x1316 := (decide (a1299 < (0 : Int)))
                                let x1317 := IntKind.u64.wrap x1312
                                k0 (x1316, (x1317, (x1300.2.1, ()))) true
                              else
                                let x1318 := (decide (a1299 < (0 : Int)))
                                bif (decide (x1300.1 < (0 : Int))) then
                                  none
                                else
                                  let x1319 := (shlI .i64 (1 : Int) x1300.1)
                                  let x1320 := bitI .or .i64 x1312 x1319
                                  let x1321 := IntKind.u64.wrap x1320
                                  let x1322 := IntKind.i64.wrap (x1300.2.1 + x1314)
                                  let x1323 := (IntKind.i64.wrap (x1322 - (1 : Int)))
                                  k0 (x1318, (x1321, (x1323, ()))) true)))))
theorem impl_BitPartOf.ex : ∃ f : ((α : Type) → Nat → Int → Int → ((Bool × Int × Int × Unit) → Bool → Option α) → Option α), f = fun α => @impl_BitPartOf.b α := ⟨_, rfl⟩
noncomputable def impl_BitPartOf {α : Type} : Nat → Int → Int → ((Bool × Int × Int × Unit) → Bool → Option α) → Option α := Classical.choose impl_BitPartOf.ex α
theorem impl_BitPartOf.eq : @impl_BitPartOf = @impl_BitPartOf.b := funext fun α => congrFun (Classical.choose_spec impl_BitPartOf.ex) α

noncomputable def impl_natOf_L0r {α : Type} (N : Nat) (next : Int → List Int → Option α) (k0 : List Int → Option α) (v1327 : Int) (v1328 : List Int) : Option α :=
  let x1329 := (decide ((0 : Int) < v1327))
  bif x1329 then
    let x1330 := (bitI .and .u64 v1327 (65535 : Int))
    let x1331 := IntKind.i64.wrap x1330
    let x1332 := [x1331]
    bif decide (v1328.length + x1332.length ≤ 8796093022208) then
      let x1333 := v1328 ++ x1332
      let x1334 := (shrI .u64 v1327 (16 : Int))
      next x1334 x1333
    else
      none
  else
    k0 v1328
noncomputable def impl_natOf_L0.b {α : Type} (N n : Nat) (v1327 : Int) (v1328 : List Int) (k0 : List Int → Option α) : Option α :=
  Nat.rec (motive := fun _ => Int → List Int → Option α) (fun _ _ => none) (fun _ next => impl_natOf_L0r N next k0) n v1327 v1328
theorem impl_natOf_L0.ex : ∃ f : ((α : Type) → Nat → Nat → Int → List Int → (List Int → Option α) → Option α), f = fun α => @impl_natOf_L0.b α := ⟨_, rfl⟩
noncomputable def impl_natOf_L0 {α : Type} : Nat → Nat → Int → List Int → (List Int → Option α) → Option α := Classical.choose impl_natOf_L0.ex α
theorem impl_natOf_L0.eq : @impl_natOf_L0 = @impl_natOf_L0.b := funext fun α => congrFun (Classical.choose_spec impl_natOf_L0.ex) α
theorem impl_natOf_L0.zero {α : Type} (N : Nat) (v1327 : Int) (v1328 : List Int) (k0 : List Int → Option α) : impl_natOf_L0 N 0 v1327 v1328 k0 = none := by rw [impl_natOf_L0.eq]; rfl
theorem impl_natOf_L0.succ {α : Type} (N n : Nat) (v1327 : Int) (v1328 : List Int) (k0 : List Int → Option α) : impl_natOf_L0 N (n + 1) v1327 v1328 k0 = impl_natOf_L0r N (fun y0 y1 => impl_natOf_L0 N n y0 y1 k0) k0 v1327 v1328 := by rw [impl_natOf_L0.eq]; rfl
/-- loop.example/pinfold/impl.natOf -/
noncomputable def impl_natOf.b {α : Type} (N : Nat) (a1326 : Int) (k0 : List Int → Option α) : Option α :=
  impl_natOf_L0 N N a1326 []
    (fun x1335 =>
      k0 x1335)
theorem impl_natOf.ex : ∃ f : ((α : Type) → Nat → Int → (List Int → Option α) → Option α), f = fun α => @impl_natOf.b α := ⟨_, rfl⟩
noncomputable def impl_natOf {α : Type} : Nat → Int → (List Int → Option α) → Option α := Classical.choose impl_natOf.ex α
theorem impl_natOf.eq : @impl_natOf = @impl_natOf.b := funext fun α => congrFun (Classical.choose_spec impl_natOf.ex) α

/-- loop.example/pinfold/impl.whole -/
noncomputable def impl_whole.b {α : Type} (N : Nat) (a1339 : Bool) (a1340 : List Int) (k0 : Bool → List Int → List Int → Option α) : Option α :=
  bif a1339 then
    let x1341 := ((a1340.length : Nat) : Int)
    let x1342 := (decide ((0 : Int) < x1341))
    let x1343 := [(1 : Int)]
    k0 x1342 a1340 x1343
  else
    let x1344 := [(1 : Int)]
    k0 false a1340 x1344
theorem impl_whole.ex : ∃ f : ((α : Type) → Nat → Bool → List Int → (Bool → List Int → List Int → Option α) → Option α), f = fun α => @impl_whole.b α := ⟨_, rfl⟩
noncomputable def impl_whole {α : Type} : Nat → Bool → List Int → (Bool → List Int → List Int → Option α) → Option α := Classical.choose impl_whole.ex α
theorem impl_whole.eq : @impl_whole = @impl_whole.b := funext fun α => congrFun (Classical.choose_spec impl_whole.ex) α

noncomputable def impl_lowest_J2.b {α : Type} (N : Nat) (v1355 : Bool) (v1356 : List Int) (v1357 : List Int) (v1358 : List Int) (v1359 : Bool) (v1360 : List Int) (v1361 : List Int) (k0 : Bool → List Int → List Int → Bool → List Int → List Int → Option α) : Option α :=
  let x1362 := [(1 : Int)]
  impl_natCmp N v1358 x1362
    (fun x1363 =>
      let x1364 := (!(decide (x1363 = (0 : Int))))
      bif x1364 then
        impl_natDiv N v1356 v1358
          (fun x1365 _ =>
            impl_natDiv N v1357 v1358
              (fun x1367 _ =>
                k0 v1355 x1365 x1367 v1359 v1360 v1361))
      else
        k0 v1355 v1356 v1357 v1359 v1360 v1361)
theorem impl_lowest_J2.ex : ∃ f : ((α : Type) → Nat → Bool → List Int → List Int → List Int → Bool → List Int → List Int → (Bool → List Int → List Int → Bool → List Int → List Int → Option α) → Option α), f = fun α => @impl_lowest_J2.b α := ⟨_, rfl⟩
noncomputable def impl_lowest_J2 {α : Type} : Nat → Bool → List Int → List Int → List Int → Bool → List Int → List Int → (Bool → List Int → List Int → Bool → List Int → List Int → Option α) → Option α := Classical.choose impl_lowest_J2.ex α
theorem impl_lowest_J2.eq : @impl_lowest_J2 = @impl_lowest_J2.b := funext fun α => congrFun (Classical.choose_spec impl_lowest_J2.ex) α
/-- loop.example/pinfold/impl.lowest -/
noncomputable def impl_lowest.b {α : Type} (N : Nat) (a1351 : Bool) (a1352 : List Int) (a1353 : List Int) (k0 : (Bool × (List Int) × (List Int) × Unit) → Option α) : Option α :=
  impl_natGcd N a1352 a1353
    (fun x1354 =>
      impl_lowest_J2 N a1351 a1352 a1353 x1354 false [] []
        (fun x1369 x1370 x1371 _ _ _ =>
          bif x1369 then
            let x1375 := ((x1370.length : Nat) : Int)
            let x1376 := (decide ((0 : Int) < x1375))
            k0 (x1376, (x1370, (x1371, ())))
          else
            k0 (false, (x1370, (x1371, ())))))
theorem impl_lowest.ex : ∃ f : ((α : Type) → Nat → Bool → List Int → List Int → ((Bool × (List Int) × (List Int) × Unit) → Option α) → Option α), f = fun α => @impl_lowest.b α := ⟨_, rfl⟩
noncomputable def impl_lowest {α : Type} : Nat → Bool → List Int → List Int → ((Bool × (List Int) × (List Int) × Unit) → Option α) → Option α := Classical.choose impl_lowest.ex α
theorem impl_lowest.eq : @impl_lowest = @impl_lowest.b := funext fun α => congrFun (Classical.choose_spec impl_lowest.ex) α

/-- loop.example/pinfold/impl.value -/
noncomputable def impl_value.b {α : Type} (N : Nat) (a1296 : Int) (a1297 : Int) (k0 : (Bool × (List Int) × (List Int) × Unit) → Option α) : Option α :=
  impl_BitPartOf N a1296 a1297
    (fun x1324 _ =>
      impl_natOf N x1324.2.1
        (fun x1336 =>
          let x1337 := (decide ((0 : Int) ≤ x1324.2.2.1))
          bif x1337 then
            impl_natShift N x1336 x1324.2.2.1
              (fun x1338 =>
                impl_whole N x1324.1 x1338
                  (fun x1345 x1346 x1347 =>
                    k0 (x1345, (x1346, (x1347, ())))))
          else
            let x1348 := [(1 : Int)]
            let x1349 := IntKind.i64.wrap (0 - x1324.2.2.1)
            impl_natShift N x1348 x1349
              (fun x1350 =>
                impl_lowest N x1324.1 x1336 x1350
                  (fun x1377 =>
                    k0 x1377))))
theorem impl_value.ex : ∃ f : ((α : Type) → Nat → Int → Int → ((Bool × (List Int) × (List Int) × Unit) → Option α) → Option α), f = fun α => @impl_value.b α := ⟨_, rfl⟩
noncomputable def impl_value {α : Type} : Nat → Int → Int → ((Bool × (List Int) × (List Int) × Unit) → Option α) → Option α := Classical.choose impl_value.ex α
theorem impl_value.eq : @impl_value = @impl_value.b := funext fun α => congrFun (Classical.choose_spec impl_value.ex) α

/-- (loop.example/pinfold/impl.Frac).sign -/
noncomputable def impl_Frac_sign.b {α : Type} (N : Nat) (a1381 : Bool × (List Int) × (List Int) × Unit) (k0 : Int → Option α) : Option α :=
  bif a1381.1 then
    k0 (-1 : Int)
  else
    let x1382 := ((a1381.2.1.length : Nat) : Int)
    let x1383 := (decide (x1382 = (0 : Int)))
    bif x1383 then
      k0 (0 : Int)
    else
      k0 (1 : Int)
theorem impl_Frac_sign.ex : ∃ f : ((α : Type) → Nat → (Bool × (List Int) × (List Int) × Unit) → (Int → Option α) → Option α), f = fun α => @impl_Frac_sign.b α := ⟨_, rfl⟩
noncomputable def impl_Frac_sign {α : Type} : Nat → (Bool × (List Int) × (List Int) × Unit) → (Int → Option α) → Option α := Classical.choose impl_Frac_sign.ex α
theorem impl_Frac_sign.eq : @impl_Frac_sign = @impl_Frac_sign.b := funext fun α => congrFun (Classical.choose_spec impl_Frac_sign.ex) α

noncomputable def impl_natMul_L2r {α : Type} (N : Nat) (next : List Int → Int → Int → Int → List Int → Int → Int → List Int → Int → Int → List Int → Option α) (k0 : List Int → Int → Int → List Int → Int → Int → List Int → Option α) (v1408 : List Int) (v1409 : Int) (v1410 : Int) (v1411 : Int) (v1412 : List Int) (v1413 : Int) (v1414 : Int) (v1415 : List Int) (v1416 : Int) (v1417 : Int) (v1418 : List Int) : Option α :=
  let x1419 := decide (v1417 < v1416)
  bif x1419 then
    bif (decide (v1417 < (0 : Int))) then
      none
    else
      match v1415[v1417.toNat]? with
      | some x1420 =>
        let x1421 := IntKind.i64.wrap (v1409 + v1417)
        bif (decide (x1421 < (0 : Int))) then
          none
        else
          bif decide (x1421.toNat < v1418.length) then
            match v1418[x1421.toNat]? with
            | some x1422 =>
              let x1423 := IntKind.i64.wrap (v1410 * x1420)
              let x1424 := IntKind.i64.wrap (x1422 + x1423)
              let x1425 := IntKind.i64.wrap (x1424 + v1411)
              let x1426 := IntKind.i64.wrap (v1409 + v1417)
              let x1427 := (bitI .and .i64 x1425 (65535 : Int))
              bif (decide (x1426 < (0 : Int))) then
                none
              else
                bif decide (x1426.toNat < v1418.length) then
                  match v1418[x1426.toNat]? with
                  | some x1428 =>
                    let x1429 := v1418.set x1426.toNat x1427
                    let x1430 := (shrI .i64 x1425 (16 : Int))
                    let x1431 := (IntKind.i64.wrap (v1417 + (1 : Int)))
                    next v1408 v1409 v1410 x1430 v1412 v1413 v1414 v1415 v1416 x1431 x1429
                  | none => none
                else
                  none
            | none => none
          else
            none
      | none => none
  else
    k0 v1408 v1409 v1411 v1412 v1413 v1414 v1418
noncomputable def impl_natMul_L2.b {α : Type} (N n : Nat) (v1408 : List Int) (v1409 : Int) (v1410 : Int) (v1411 : Int) (v1412 : List Int) (v1413 : Int) (v1414 : Int) (v1415 : List Int) (v1416 : Int) (v1417 : Int) (v1418 : List Int) (k0 : List Int → Int → Int → List Int → Int → Int → List Int → Option α) : Option α :=
  Nat.rec (motive := fun _ => List Int → Int → Int → Int → List Int → Int → Int → List Int → Int → Int → List Int → Option α) (fun _ _ _ _ _ _ _ _ _ _ _ => none) (fun _ next => impl_natMul_L2r N next k0) n v1408 v1409 v1410 v1411 v1412 v1413 v1414 v1415 v1416 v1417 v1418
theorem impl_natMul_L2.ex : ∃ f : ((α : Type) → Nat → Nat → List Int → Int → Int → Int → List Int → Int → Int → List Int → Int → Int → List Int → (List Int → Int → Int → List Int → Int → Int → List Int → Option α) → Option α), f = fun α => @impl_natMul_L2.b α := ⟨_, rfl⟩
noncomputable def impl_natMul_L2 {α : Type} : Nat → Nat → List Int → Int → Int → Int → List Int → Int → Int → List Int → Int → Int → List Int → (List Int → Int → Int → List Int → Int → Int → List Int → Option α) → Option α := Classical.choose impl_natMul_L2.ex α
theorem impl_natMul_L2.eq : @impl_natMul_L2 = @impl_natMul_L2.b := funext fun α => congrFun (Classical.choose_spec impl_natMul_L2.ex) α
theorem impl_natMul_L2.zero {α : Type} (N : Nat) (v1408 : List Int) (v1409 : Int) (v1410 : Int) (v1411 : Int) (v1412 : List Int) (v1413 : Int) (v1414 : Int) (v1415 : List Int) (v1416 : Int) (v1417 : Int) (v1418 : List Int) (k0 : List Int → Int → Int → List Int → Int → Int → List Int → Option α) : impl_natMul_L2 N 0 v1408 v1409 v1410 v1411 v1412 v1413 v1414 v1415 v1416 v1417 v1418 k0 = none := by rw [impl_natMul_L2.eq]; rfl
theorem impl_natMul_L2.succ {α : Type} (N n : Nat) (v1408 : List Int) (v1409 : Int) (v1410 : Int) (v1411 : Int) (v1412 : List Int) (v1413 : Int) (v1414 : Int) (v1415 : List Int) (v1416 : Int) (v1417 : Int) (v1418 : List Int) (k0 : List Int → Int → Int → List Int → Int → Int → List Int → Option α) : impl_natMul_L2 N (n + 1) v1408 v1409 v1410 v1411 v1412 v1413 v1414 v1415 v1416 v1417 v1418 k0 = impl_natMul_L2r N (fun y0 y1 y2 y3 y4 y5 y6 y7 y8 y9 y10 => impl_natMul_L2 N n y0 y1 y2 y3 y4 y5 y6 y7 y8 y9 y10 k0) k0 v1408 v1409 v1410 v1411 v1412 v1413 v1414 v1415 v1416 v1417 v1418 := by rw [impl_natMul_L2.eq]; rfl
noncomputable def impl_natMul_L0r {α : Type} (N : Nat) (next : List Int → List Int → Int → Int → List Int → Option α) (k0 : List Int → Option α) (v1400 : List Int) (v1401 : List Int) (v1402 : Int) (v1403 : Int) (v1404 : List Int) : Option α :=
  let x1405 := decide (v1403 < v1402)
  bif x1405 then
    bif (decide (v1403 < (0 : Int))) then
      none
    else
      match v1401[v1403.toNat]? with
      | some x1406 =>
        let x1407 := ((v1400.length : Nat) : Int)
        impl_natMul_L2 N N v1400 v1403 x1406 (0 : Int) v1401 v1402 v1403 v1400 x1407 (0 : Int) v1404
          (fun x1432 x1433 x1434 x1435 x1436 x1437 x1438 =>
            let x1439 := ((x1432.length : Nat) : Int)
            let x1440 := IntKind.i64.wrap (x1433 + x1439)
            bif (decide (x1440 < (0 : Int))) then
              none
            else
              bif decide (x1440.toNat < x1438.length) then
                match x1438[x1440.toNat]? with
                | some x1441 =>
                  let x1442 := IntKind.i64.wrap (x1441 + x1434)
                  bif (decide (x1440 < (0 : Int))) then
                    none
                  else
                    bif decide (x1440.toNat < x1438.length) then
                      match x1438[x1440.toNat]? with
                      | some x1443 =>
                        let x1444 := x1438.set x1440.toNat x1442
                        let x1445 := (IntKind.i64.wrap (x1437 + (1 : Int)))
                        next x1432 x1435 x1436 x1445 x1444
                      | none => none
                    else
                      none
                | none => none
              else
                none)
      | none => none
  else
    k0 v1404
noncomputable def impl_natMul_L0.b {α : Type} (N n : Nat) (v1400 : List Int) (v1401 : List Int) (v1402 : Int) (v1403 : Int) (v1404 : List Int) (k0 : List Int → Option α) : Option α :=
  Nat.rec (motive := fun _ => List Int → List Int → Int → Int → List Int → Option α) (fun _ _ _ _ _ => none) (fun _ next => impl_natMul_L0r N next k0) n v1400 v1401 v1402 v1403 v1404
theorem impl_natMul_L0.ex : ∃ f : ((α : Type) → Nat → Nat → List Int → List Int → Int → Int → List Int → (List Int → Option α) → Option α), f = fun α => @impl_natMul_L0.b α := ⟨_, rfl⟩
noncomputable def impl_natMul_L0 {α : Type} : Nat → Nat → List Int → List Int → Int → Int → List Int → (List Int → Option α) → Option α := Classical.choose impl_natMul_L0.ex α
theorem impl_natMul_L0.eq : @impl_natMul_L0 = @impl_natMul_L0.b := funext fun α => congrFun (Classical.choose_spec impl_natMul_L0.ex) α
theorem impl_natMul_L0.zero {α : Type} (N : Nat) (v1400 : List Int) (v1401 : List Int) (v1402 : Int) (v1403 : Int) (v1404 : List Int) (k0 : List Int → Option α) : impl_natMul_L0 N 0 v1400 v1401 v1402 v1403 v1404 k0 = none := by rw [impl_natMul_L0.eq]; rfl
theorem impl_natMul_L0.succ {α : Type} (N n : Nat) (v1400 : List Int) (v1401 : List Int) (v1402 : Int) (v1403 : Int) (v1404 : List Int) (k0 : List Int → Option α) : impl_natMul_L0 N (n + 1) v1400 v1401 v1402 v1403 v1404 k0 = impl_natMul_L0r N (fun y0 y1 y2 y3 y4 => impl_natMul_L0 N n y0 y1 y2 y3 y4 k0) k0 v1400 v1401 v1402 v1403 v1404 := by rw [impl_natMul_L0.eq]; rfl
/-- loop.example/pinfold/impl.natMul -/
noncomputable def impl_natMul.b {α : Type} (N : Nat) (a1392 : List Int) (a1393 : List Int) (k0 : List Int → Option α) : Option α :=
  let x1394 := ((a1392.length : Nat) : Int)
  let x1395 := ((a1393.length : Nat) : Int)
  let x1396 := IntKind.i64.wrap (x1394 + x1395)
  let x1397 := (IntKind.i64.wrap (x1396 + (1 : Int)))
  bif (decide ((0 : Int) ≤ x1397)) then
    bif decide (x1397 ≤ x1397) then
      bif (decide (x1397 ≤ ((8796093022208 : Nat) : Int))) then
        let x1398 := (List.replicate x1397.toNat (0 : Int))
        let x1399 := ((a1392.length : Nat) : Int)
        impl_natMul_L0 N N a1393 a1392 x1399 (0 : Int) x1398
          (fun x1446 =>
            impl_trim N x1446
              (fun x1447 =>
                k0 x1447))
      else
        none
    else
      none
  else
    none
theorem impl_natMul.ex : ∃ f : ((α : Type) → Nat → List Int → List Int → (List Int → Option α) → Option α), f = fun α => @impl_natMul.b α := ⟨_, rfl⟩
noncomputable def impl_natMul {α : Type} : Nat → List Int → List Int → (List Int → Option α) → Option α := Classical.choose impl_natMul.ex α
theorem impl_natMul.eq : @impl_natMul = @impl_natMul.b := funext fun α => congrFun (Classical.choose_spec impl_natMul.ex) α

/-- (loop.example/pinfold/impl.Frac).cmp -/
noncomputable def impl_Frac_cmp.b {α : Type} (N : Nat) (a1379 : Bool × (List Int) × (List Int) × Unit) (a1380 : Bool × (List Int) × (List Int) × Unit) (k0 : Int → Option α) : Option α :=
  impl_Frac_sign N a1379
    (fun x1384 =>
      impl_Frac_sign N a1380
        (fun x1385 =>
          let x1386 := !(decide (x1384 = x1385))
          bif x1386 then
            impl_Frac_sign N a1379
              (fun x1387 =>
                impl_Frac_sign N a1380
                  (fun x1388 =>
                    let x1389 := IntKind.i64.wrap (x1387 - x1388)
                    let x1390 := (minI (1 : Int) x1389)
                    let x1391 := (maxI (-1 : Int) x1390)
                    k0 x1391))
          else
            impl_natMul N a1379.2.1 a1380.2.2.1
              (fun x1448 =>
                impl_natMul N a1380.2.1 a1379.2.2.1
                  (fun x1449 =>
                    impl_natCmp N x1448 x1449
                      (fun x1450 =>
                        bif a1379.1 then
                          let x1451 := IntKind.i64.wrap (0 - x1450)
                          k0 x1451
                        else
                          k0 x1450)))))
theorem impl_Frac_cmp.ex : ∃ f : ((α : Type) → Nat → (Bool × (List Int) × (List Int) × Unit) → (Bool × (List Int) × (List Int) × Unit) → (Int → Option α) → Option α), f = fun α => @impl_Frac_cmp.b α := ⟨_, rfl⟩
noncomputable def impl_Frac_cmp {α : Type} : Nat → (Bool × (List Int) × (List Int) × Unit) → (Bool × (List Int) × (List Int) × Unit) → (Int → Option α) → Option α := Classical.choose impl_Frac_cmp.ex α
theorem impl_Frac_cmp.eq : @impl_Frac_cmp = @impl_Frac_cmp.b := funext fun α => congrFun (Classical.choose_spec impl_Frac_cmp.ex) α

/-- loop.example/pinfold/impl.PairHas -/
noncomputable def impl_PairHas.b {α : Type} (N : Nat) (a581 : Int) (a582 : Int × Int × Unit) (a583 : Bool × (List Int) × (List Int) × Unit) (k0 : Bool → Option α) : Option α :=
  impl_BitTop N a581
    (fun x590 =>
      impl_PairOk N a581 a582
        (fun x611 =>
          bif x611 then
            impl_FracOk N a583
              (fun x1210 =>
                bif x1210 then
                  let x1211 := IntKind.i64.wrap (0 - x590)
                  let x1212 := decide (a582.1 = x1211)
                  bif x1212 then
                    let x1213 := decide (a582.2.1 = x590)
                    bif x1213 then
                      k0 true
                    else
                      impl_value N a581 a582.2.1
                        (fun x1378 =>
                          impl_Frac_cmp N a583 x1378
                            (fun x1452 =>
                              let x1453 := (decide (x1452 ≤ (0 : Int)))
                              k0 x1453))
                  else
                    impl_value N a581 a582.1
                      (fun x1454 =>
                        impl_Frac_cmp N x1454 a583
                          (fun x1455 =>
                            let x1456 := (decide (x1455 ≤ (0 : Int)))
                            bif x1456 then
                              let x1457 := decide (a582.2.1 = x590)
                              bif x1457 then
                                k0 true
                              else
                                impl_value N a581 a582.2.1
                                  (fun x1458 =>
                                    impl_Frac_cmp N a583 x1458
                                      (fun x1459 =>
                                        let x1460 := (decide (x1459 ≤ (0 : Int)))
                                        k0 x1460))
                            else
                              k0 false))
                else
                  k0 false)
          else
            k0 false))
theorem impl_PairHas.ex : ∃ f : ((α : Type) → Nat → Int → (Int × Int × Unit) → (Bool × (List Int) × (List Int) × Unit) → (Bool → Option α) → Option α), f = fun α => @impl_PairHas.b α := ⟨_, rfl⟩
noncomputable def impl_PairHas {α : Type} : Nat → Int → (Int × Int × Unit) → (Bool × (List Int) × (List Int) × Unit) → (Bool → Option α) → Option α := Classical.choose impl_PairHas.ex α
theorem impl_PairHas.eq : @impl_PairHas = @impl_PairHas.b := funext fun α => congrFun (Classical.choose_spec impl_PairHas.ex) α

noncomputable def laws_eqIntS_L0r {α : Type} (N : Nat) (next : List Int → List Int → Int → Option α) (k0 : Bool → Option α) (k1 : Option α) (v1474 : List Int) (v1475 : List Int) (v1476 : Int) : Option α :=
  let x1477 := ((v1474.length : Nat) : Int)
  let x1478 := decide (v1476 < x1477)
  bif x1478 then
    bif (decide (v1476 < (0 : Int))) then
      none
    else
      match v1474[v1476.toNat]? with
      | some x1479 =>
        bif (decide (v1476 < (0 : Int))) then
          none
        else
          match v1475[v1476.toNat]? with
          | some x1480 =>
            let x1481 := !(decide (x1479 = x1480))
            bif x1481 then
              k0 false
            else
              let x1482 := (IntKind.i64.wrap (v1476 + (1 : Int)))
              next v1474 v1475 x1482
          | none => none
      | none => none
  else
    k1
noncomputable def laws_eqIntS_L0.b {α : Type} (N n : Nat) (v1474 : List Int) (v1475 : List Int) (v1476 : Int) (k0 : Bool → Option α) (k1 : Option α) : Option α :=
  Nat.rec (motive := fun _ => List Int → List Int → Int → Option α) (fun _ _ _ => none) (fun _ next => laws_eqIntS_L0r N next k0 k1) n v1474 v1475 v1476
theorem laws_eqIntS_L0.ex : ∃ f : ((α : Type) → Nat → Nat → List Int → List Int → Int → (Bool → Option α) → (Option α) → Option α), f = fun α => @laws_eqIntS_L0.b α := ⟨_, rfl⟩
noncomputable def laws_eqIntS_L0 {α : Type} : Nat → Nat → List Int → List Int → Int → (Bool → Option α) → (Option α) → Option α := Classical.choose laws_eqIntS_L0.ex α
theorem laws_eqIntS_L0.eq : @laws_eqIntS_L0 = @laws_eqIntS_L0.b := funext fun α => congrFun (Classical.choose_spec laws_eqIntS_L0.ex) α
theorem laws_eqIntS_L0.zero {α : Type} (N : Nat) (v1474 : List Int) (v1475 : List Int) (v1476 : Int) (k0 : Bool → Option α) (k1 : Option α) : laws_eqIntS_L0 N 0 v1474 v1475 v1476 k0 k1 = none := by rw [laws_eqIntS_L0.eq]; rfl
theorem laws_eqIntS_L0.succ {α : Type} (N n : Nat) (v1474 : List Int) (v1475 : List Int) (v1476 : Int) (k0 : Bool → Option α) (k1 : Option α) : laws_eqIntS_L0 N (n + 1) v1474 v1475 v1476 k0 k1 = laws_eqIntS_L0r N (fun y0 y1 y2 => laws_eqIntS_L0 N n y0 y1 y2 k0 k1) k0 k1 v1474 v1475 v1476 := by rw [laws_eqIntS_L0.eq]; rfl
/-- loop.example/pinfold/laws.eqIntS -/
noncomputable def laws_eqIntS.b {α : Type} (N : Nat) (a1469 : List Int) (a1470 : List Int) (k0 : Bool → Option α) : Option α :=
  let x1471 := ((a1469.length : Nat) : Int)
  let x1472 := ((a1470.length : Nat) : Int)
  let x1473 := !(decide (x1471 = x1472))
  bif x1473 then
    k0 false
  else
    laws_eqIntS_L0 N N a1469 a1470 (0 : Int)
      (fun x1483 =>
        k0 x1483)
      (
        k0 true)
theorem laws_eqIntS.ex : ∃ f : ((α : Type) → Nat → List Int → List Int → (Bool → Option α) → Option α), f = fun α => @laws_eqIntS.b α := ⟨_, rfl⟩
noncomputable def laws_eqIntS {α : Type} : Nat → List Int → List Int → (Bool → Option α) → Option α := Classical.choose laws_eqIntS.ex α
theorem laws_eqIntS.eq : @laws_eqIntS = @laws_eqIntS.b := funext fun α => congrFun (Classical.choose_spec laws_eqIntS.ex) α

/-- loop.example/pinfold/laws.eqFrac -/
noncomputable def laws_eqFrac.b {α : Type} (N : Nat) (a1466 : Bool × (List Int) × (List Int) × Unit) (a1467 : Bool × (List Int) × (List Int) × Unit) (k0 : Bool → Option α) : Option α :=
  let x1468 := !(a1466.1 == a1467.1)
  bif x1468 then
    k0 false
  else
    laws_eqIntS N a1466.2.1 a1467.2.1
      (fun x1484 =>
        let x1485 := !x1484
        bif x1485 then
          k0 false
        else
          laws_eqIntS N a1466.2.2.1 a1467.2.2.1
            (fun x1486 =>
              let x1487 := !x1486
              bif x1487 then
                k0 false
              else
                k0 true))
theorem laws_eqFrac.ex : ∃ f : ((α : Type) → Nat → (Bool × (List Int) × (List Int) × Unit) → (Bool × (List Int) × (List Int) × Unit) → (Bool → Option α) → Option α), f = fun α => @laws_eqFrac.b α := ⟨_, rfl⟩
noncomputable def laws_eqFrac {α : Type} : Nat → (Bool × (List Int) × (List Int) × Unit) → (Bool × (List Int) × (List Int) × Unit) → (Bool → Option α) → Option α := Classical.choose laws_eqFrac.ex α
theorem laws_eqFrac.eq : @laws_eqFrac = @laws_eqFrac.b := funext fun α => congrFun (Classical.choose_spec laws_eqFrac.ex) α

/-- loop.example/pinfold/laws.FnExactPairHas -/
noncomputable def laws_FnExactPairHas.b {α : Type} (N : Nat) (a1 : Int) (a2 : Int × Int × Unit) (a3 : Bool × (List Int) × (List Int) × Unit) (k0 : Bool → Option α) : Option α :=
  laws_szFrac N a3 (1048576 : Int)
    (fun x15 =>
      let x16 := (decide (x15 < (0 : Int)))
      bif x16 then
        k0 true
      else
        laws_toPair N a2
          (fun x18 =>
            laws_toFrac N a3
              (fun x35 x36 x37 =>
                spec_PairHas N a1 x18 (x35, (x36, (x37, ())))
                  (fun x576 =>
                    laws_toFrac N a3
                      (fun x577 x578 x579 =>
                        laws_toPair N a2
                          (fun x580 =>
                            impl_PairHas N a1 x580 (x577, (x578, (x579, ())))
                              (fun x1461 =>
                                let x1462 := !(x1461 == x576)
                                bif x1462 then
                                  k0 false
                                else
                                  laws_toFrac N a3
                                    (fun x1463 x1464 x1465 =>
                                      laws_eqFrac N (x577, (x578, (x579, ()))) (x1463, (x1464, (x1465, ())))
                                        (fun x1488 =>
                                          let x1489 := !x1488
                                          bif x1489 then
                                            k0 false
                                          else
                                            k0 true)))))))))
theorem laws_FnExactPairHas.ex : ∃ f : ((α : Type) → Nat → Int → (Int × Int × Unit) → (Bool × (List Int) × (List Int) × Unit) → (Bool → Option α) → Option α), f = fun α => @laws_FnExactPairHas.b α := ⟨_, rfl⟩
noncomputable def laws_FnExactPairHas {α : Type} : Nat → Int → (Int × Int × Unit) → (Bool × (List Int) × (List Int) × Unit) → (Bool → Option α) → Option α := Classical.choose laws_FnExactPairHas.ex α
theorem laws_FnExactPairHas.eq : @laws_FnExactPairHas = @laws_FnExactPairHas.b := funext fun α => congrFun (Classical.choose_spec laws_FnExactPairHas.ex) α

end
end Go.Proofs.YtlbihmicbncdiaaAm
