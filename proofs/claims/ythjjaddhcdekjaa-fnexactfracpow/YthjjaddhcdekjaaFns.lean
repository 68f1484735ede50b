/-
  The functions that the program computes, as the abstract machine tells them. Printed by amp.py.
-/
import Derived.Test.YthjjaddhcdekjaaAmb
namespace Go.Proofs.YthjjaddhcdekjaaAm
open Go
noncomputable section
set_option linter.unusedVariables false
set_option linter.unusedSimpArgs false

/-- loop.example/pinfold/laws.szIntS -/
noncomputable def laws_szIntS.b {α : Type} (N : Nat) (a5 : List Int) (a6 : Int) (k0 : Int → Option α) : Option α :=
  let x7 := ((a5.length : Nat) : Int)
  let x8 := IntKind.i64.wrap (a6 - x7)
  let x9 := (decide (x8 < (0 : Int)))
  bif x9 then
    k0 (-1 : Int)
  else
    k0 x8
theorem laws_szIntS.ex : ∃ f : ((α : Type) → Nat → List Int → Int → (Int → Option α) → Option α), f = fun α => @laws_szIntS.b α := ⟨_, rfl⟩
noncomputable def laws_szIntS {α : Type} : Nat → List Int → Int → (Int → Option α) → Option α := Classical.choose laws_szIntS.ex α
theorem laws_szIntS.eq : @laws_szIntS = @laws_szIntS.b := funext fun α => congrFun (Classical.choose_spec laws_szIntS.ex) α

/-- loop.example/pinfold/laws.szFrac -/
noncomputable def laws_szFrac.b {α : Type} (N : Nat) (a3 : Bool × (List Int) × (List Int) × Unit) (a4 : Int) (k0 : Int → Option α) : Option α :=
  laws_szIntS N a3.2.1 a4
    (fun x10 =>
      let x11 := (decide (x10 < (0 : Int)))
      bif x11 then
        k0 (-1 : Int)
      else
        laws_szIntS N a3.2.2.1 x10
          (fun x12 =>
            let x13 := (decide (x12 < (0 : Int)))
            bif x13 then
              k0 (-1 : Int)
            else
              k0 x12))
theorem laws_szFrac.ex : ∃ f : ((α : Type) → Nat → (Bool × (List Int) × (List Int) × Unit) → Int → (Int → Option α) → Option α), f = fun α => @laws_szFrac.b α := ⟨_, rfl⟩
noncomputable def laws_szFrac {α : Type} : Nat → (Bool × (List Int) × (List Int) × Unit) → Int → (Int → Option α) → Option α := Classical.choose laws_szFrac.ex α
theorem laws_szFrac.eq : @laws_szFrac = @laws_szFrac.b := funext fun α => congrFun (Classical.choose_spec laws_szFrac.ex) α

noncomputable def laws_toIntS_L0r {α : Type} (N : Nat) (next : List Int → Int → List Int → Option α) (k0 : List Int → Option α) (v20 : List Int) (v21 : Int) (v22 : List Int) : Option α :=
  let x23 := ((v20.length : Nat) : Int)
  let x24 := decide (v21 < x23)
  bif x24 then
    bif (decide (v21 < (0 : Int))) then
      none
    else
      match v20[v21.toNat]? with
      | some x25 =>
        bif (decide (v21 < (0 : Int))) then
          none
        else
          bif decide (v21.toNat < v22.length) then
            match v22[v21.toNat]? with
            | some x26 =>
              let x27 := v22.set v21.toNat x25
              let x28 := (IntKind.i64.wrap (v21 + (1 : Int)))
              next v20 x28 x27
            | none => none
          else
            none
      | none => none
  else
    k0 v22
noncomputable def laws_toIntS_L0.b {α : Type} (N n : Nat) (v20 : List Int) (v21 : Int) (v22 : List Int) (k0 : List Int → Option α) : Option α :=
  Nat.rec (motive := fun _ => List Int → Int → List Int → Option α) (fun _ _ _ => none) (fun _ next => laws_toIntS_L0r N next k0) n v20 v21 v22
theorem laws_toIntS_L0.ex : ∃ f : ((α : Type) → Nat → Nat → List Int → Int → List Int → (List Int → Option α) → Option α), f = fun α => @laws_toIntS_L0.b α := ⟨_, rfl⟩
noncomputable def laws_toIntS_L0 {α : Type} : Nat → Nat → List Int → Int → List Int → (List Int → Option α) → Option α := Classical.choose laws_toIntS_L0.ex α
theorem laws_toIntS_L0.eq : @laws_toIntS_L0 = @laws_toIntS_L0.b := funext fun α => congrFun (Classical.choose_spec laws_toIntS_L0.ex) α
theorem laws_toIntS_L0.zero {α : Type} (N : Nat) (v20 : List Int) (v21 : Int) (v22 : List Int) (k0 : List Int → Option α) : laws_toIntS_L0 N 0 v20 v21 v22 k0 = none := by rw [laws_toIntS_L0.eq]; rfl
theorem laws_toIntS_L0.succ {α : Type} (N n : Nat) (v20 : List Int) (v21 : Int) (v22 : List Int) (k0 : List Int → Option α) : laws_toIntS_L0 N (n + 1) v20 v21 v22 k0 = laws_toIntS_L0r N (fun y0 y1 y2 => laws_toIntS_L0 N n y0 y1 y2 k0) k0 v20 v21 v22 := by rw [laws_toIntS_L0.eq]; rfl
/-- loop.example/pinfold/laws.toIntS -/
noncomputable def laws_toIntS.b {α : Type} (N : Nat) (a17 : List Int) (k0 : List Int → Option α) : Option α :=
  let x18 := ((a17.length : Nat) : Int)
  bif (decide ((0 : Int) ≤ x18)) then
    bif decide (x18 ≤ x18) then
      bif (decide (x18 ≤ ((8796093022208 : Nat) : Int))) then
        let x19 := (List.replicate x18.toNat (0 : Int))
        laws_toIntS_L0 N N a17 (0 : Int) x19
          (fun x29 =>
            k0 x29)
      else
        none
    else
      none
  else
    none
theorem laws_toIntS.ex : ∃ f : ((α : Type) → Nat → List Int → (List Int → Option α) → Option α), f = fun α => @laws_toIntS.b α := ⟨_, rfl⟩
noncomputable def laws_toIntS {α : Type} : Nat → List Int → (List Int → Option α) → Option α := Classical.choose laws_toIntS.ex α
theorem laws_toIntS.eq : @laws_toIntS = @laws_toIntS.b := funext fun α => congrFun (Classical.choose_spec laws_toIntS.ex) α

/-- loop.example/pinfold/laws.toFrac -/
noncomputable def laws_toFrac.b {α : Type} (N : Nat) (a16 : Bool × (List Int) × (List Int) × Unit) (k0 : Bool → List Int → List Int → Option α) : Option α :=
  laws_toIntS N a16.2.1
    (fun x30 =>
      laws_toIntS N a16.2.2.1
        (fun x31 =>
          k0 a16.1 x30 x31))
theorem laws_toFrac.ex : ∃ f : ((α : Type) → Nat → (Bool × (List Int) × (List Int) × Unit) → (Bool → List Int → List Int → Option α) → Option α), f = fun α => @laws_toFrac.b α := ⟨_, rfl⟩
noncomputable def laws_toFrac {α : Type} : Nat → (Bool × (List Int) × (List Int) × Unit) → (Bool → List Int → List Int → Option α) → Option α := Classical.choose laws_toFrac.ex α
theorem laws_toFrac.eq : @laws_toFrac = @laws_toFrac.b := funext fun α => congrFun (Classical.choose_spec laws_toFrac.ex) α

noncomputable def spec_NatOk_L0r {α : Type} (N : Nat) (next : List Int → Int → Option α) (k0 : Bool → Option α) (k1 : List Int → Option α) (v41 : List Int) (v42 : Int) : Option α :=
  let x43 := ((v41.length : Nat) : Int)
  let x44 := decide (v42 < x43)
  bif x44 then
    bif (decide (v42 < (0 : Int))) then
      none
    else
      match v41[v42.toNat]? with
      | some x45 =>
        let x46 := (decide (x45 < (0 : Int)))
        bif x46 then
          k0 false
        else
          bif (decide (v42 < (0 : Int))) then
            none
          else
            match v41[v42.toNat]? with
            | some x47 =>
              let x48 := (decide ((65536 : Int) ≤ x47))
              bif x48 then
                k0 false
              else
                let x49 := (IntKind.i64.wrap (v42 + (1 : Int)))
                next v41 x49
            | none => none
      | none => none
  else
    k1 v41
noncomputable def spec_NatOk_L0.b {α : Type} (N n : Nat) (v41 : List Int) (v42 : Int) (k0 : Bool → Option α) (k1 : List Int → Option α) : Option α :=
  Nat.rec (motive := fun _ => List Int → Int → Option α) (fun _ _ => none) (fun _ next => spec_NatOk_L0r N next k0 k1) n v41 v42
theorem spec_NatOk_L0.ex : ∃ f : ((α : Type) → Nat → Nat → List Int → Int → (Bool → Option α) → (List Int → Option α) → Option α), f = fun α => @spec_NatOk_L0.b α := ⟨_, rfl⟩
noncomputable def spec_NatOk_L0 {α : Type} : Nat → Nat → List Int → Int → (Bool → Option α) → (List Int → Option α) → Option α := Classical.choose spec_NatOk_L0.ex α
theorem spec_NatOk_L0.eq : @spec_NatOk_L0 = @spec_NatOk_L0.b := funext fun α => congrFun (Classical.choose_spec spec_NatOk_L0.ex) α
theorem spec_NatOk_L0.zero {α : Type} (N : Nat) (v41 : List Int) (v42 : Int) (k0 : Bool → Option α) (k1 : List Int → Option α) : spec_NatOk_L0 N 0 v41 v42 k0 k1 = none := by rw [spec_NatOk_L0.eq]; rfl
theorem spec_NatOk_L0.succ {α : Type} (N n : Nat) (v41 : List Int) (v42 : Int) (k0 : Bool → Option α) (k1 : List Int → Option α) : spec_NatOk_L0 N (n + 1) v41 v42 k0 k1 = spec_NatOk_L0r N (fun y0 y1 => spec_NatOk_L0 N n y0 y1 k0 k1) k0 k1 v41 v42 := by rw [spec_NatOk_L0.eq]; rfl
/-- loop.example/pinfold/spec.NatOk -/
noncomputable def spec_NatOk.b {α : Type} (N : Nat) (a38 : List Int) (k0 : Bool → Option α) : Option α :=
  let x39 := ((a38.length : Nat) : Int)
  let x40 := (decide ((256 : Int) < x39))
  bif x40 then
    k0 false
  else
    spec_NatOk_L0 N N a38 (0 : Int)
      (fun x50 =>
        k0 x50)
      (fun x51 =>
        let x52 := ((x51.length : Nat) : Int)
        let x53 := (decide (x52 = (0 : Int)))
        bif x53 then
          k0 true
        else
          let x54 := ((x51.length : Nat) : Int)
          let x55 := (IntKind.i64.wrap (x54 - (1 : Int)))
          bif (decide (x55 < (0 : Int))) then
            none
          else
            match x51[x55.toNat]? with
            | some x56 =>
              let x57 := (!(decide (x56 = (0 : Int))))
              k0 x57
            | none => none)
theorem spec_NatOk.ex : ∃ f : ((α : Type) → Nat → List Int → (Bool → Option α) → Option α), f = fun α => @spec_NatOk.b α := ⟨_, rfl⟩
noncomputable def spec_NatOk {α : Type} : Nat → List Int → (Bool → Option α) → Option α := Classical.choose spec_NatOk.ex α
theorem spec_NatOk.eq : @spec_NatOk = @spec_NatOk.b := funext fun α => congrFun (Classical.choose_spec spec_NatOk.ex) α

noncomputable def spec_l5Trim_L0r {α : Type} (N : Nat) (next : List Int → Int → Option α) (k0 : List Int → Int → Option α) (v70 : List Int) (v71 : Int) : Option α :=
  let x72 := (decide ((0 : Int) < v71))
  bif x72 then
    let x73 := (IntKind.i64.wrap (v71 - (1 : Int)))
    bif (decide (x73 < (0 : Int))) then
      none
    else
      match v70[x73.toNat]? with
      | some x74 =>
        let x75 := (decide (x74 = (0 : Int)))
        bif x75 then
          let x76 := (IntKind.i64.wrap (v71 - (1 : Int)))
          next v70 x76
        else
          k0 v70 v71
      | none => none
  else
    k0 v70 v71
noncomputable def spec_l5Trim_L0.b {α : Type} (N n : Nat) (v70 : List Int) (v71 : Int) (k0 : List Int → Int → Option α) : Option α :=
  Nat.rec (motive := fun _ => List Int → Int → Option α) (fun _ _ => none) (fun _ next => spec_l5Trim_L0r N next k0) n v70 v71
theorem spec_l5Trim_L0.ex : ∃ f : ((α : Type) → Nat → Nat → List Int → Int → (List Int → Int → Option α) → Option α), f = fun α => @spec_l5Trim_L0.b α := ⟨_, rfl⟩
noncomputable def spec_l5Trim_L0 {α : Type} : Nat → Nat → List Int → Int → (List Int → Int → Option α) → Option α := Classical.choose spec_l5Trim_L0.ex α
theorem spec_l5Trim_L0.eq : @spec_l5Trim_L0 = @spec_l5Trim_L0.b := funext fun α => congrFun (Classical.choose_spec spec_l5Trim_L0.ex) α
theorem spec_l5Trim_L0.zero {α : Type} (N : Nat) (v70 : List Int) (v71 : Int) (k0 : List Int → Int → Option α) : spec_l5Trim_L0 N 0 v70 v71 k0 = none := by rw [spec_l5Trim_L0.eq]; rfl
theorem spec_l5Trim_L0.succ {α : Type} (N n : Nat) (v70 : List Int) (v71 : Int) (k0 : List Int → Int → Option α) : spec_l5Trim_L0 N (n + 1) v70 v71 k0 = spec_l5Trim_L0r N (fun y0 y1 => spec_l5Trim_L0 N n y0 y1 k0) k0 v70 v71 := by rw [spec_l5Trim_L0.eq]; rfl
noncomputable def spec_l5Trim_L2r {α : Type} (N : Nat) (next : List Int → Int → Int → List Int → Option α) (k0 : List Int → Option α) (v79 : List Int) (v80 : Int) (v81 : Int) (v82 : List Int) : Option α :=
  let x83 := decide (v81 < v80)
  bif x83 then
    bif (decide (v81 < (0 : Int))) then
      none
    else
      match v79[v81.toNat]? with
      | some x84 =>
        let x85 := [x84]
        bif decide (v82.length + x85.length ≤ 8796093022208) then
          let x86 := v82 ++ x85
          let x87 := (IntKind.i64.wrap (v81 + (1 : Int)))
          next v79 v80 x87 x86
        else
          none
      | none => none
  else
    k0 v82
noncomputable def spec_l5Trim_L2.b {α : Type} (N n : Nat) (v79 : List Int) (v80 : Int) (v81 : Int) (v82 : List Int) (k0 : List Int → Option α) : Option α :=
  Nat.rec (motive := fun _ => List Int → Int → Int → List Int → Option α) (fun _ _ _ _ => none) (fun _ next => spec_l5Trim_L2r N next k0) n v79 v80 v81 v82
theorem spec_l5Trim_L2.ex : ∃ f : ((α : Type) → Nat → Nat → List Int → Int → Int → List Int → (List Int → Option α) → Option α), f = fun α => @spec_l5Trim_L2.b α := ⟨_, rfl⟩
noncomputable def spec_l5Trim_L2 {α : Type} : Nat → Nat → List Int → Int → Int → List Int → (List Int → Option α) → Option α := Classical.choose spec_l5Trim_L2.ex α
theorem spec_l5Trim_L2.eq : @spec_l5Trim_L2 = @spec_l5Trim_L2.b := funext fun α => congrFun (Classical.choose_spec spec_l5Trim_L2.ex) α
theorem spec_l5Trim_L2.zero {α : Type} (N : Nat) (v79 : List Int) (v80 : Int) (v81 : Int) (v82 : List Int) (k0 : List Int → Option α) : spec_l5Trim_L2 N 0 v79 v80 v81 v82 k0 = none := by rw [spec_l5Trim_L2.eq]; rfl
theorem spec_l5Trim_L2.succ {α : Type} (N n : Nat) (v79 : List Int) (v80 : Int) (v81 : Int) (v82 : List Int) (k0 : List Int → Option α) : spec_l5Trim_L2 N (n + 1) v79 v80 v81 v82 k0 = spec_l5Trim_L2r N (fun y0 y1 y2 y3 => spec_l5Trim_L2 N n y0 y1 y2 y3 k0) k0 v79 v80 v81 v82 := by rw [spec_l5Trim_L2.eq]; rfl
/-- loop.example/pinfold/spec.l5Trim -/
noncomputable def spec_l5Trim.b {α : Type} (N : Nat) (a68 : List Int) (k0 : List Int → Option α) : Option α :=
  let x69 := ((a68.length : Nat) : Int)
  spec_l5Trim_L0 N N a68 x69
    (fun x77 x78 =>
      spec_l5Trim_L2 N N x77 x78 (0 : Int) []
        (fun x88 =>
          k0 x88))
theorem spec_l5Trim.ex : ∃ f : ((α : Type) → Nat → List Int → (List Int → Option α) → Option α), f = fun α => @spec_l5Trim.b α := ⟨_, rfl⟩
noncomputable def spec_l5Trim {α : Type} : Nat → List Int → (List Int → Option α) → Option α := Classical.choose spec_l5Trim.ex α
theorem spec_l5Trim.eq : @spec_l5Trim = @spec_l5Trim.b := funext fun α => congrFun (Classical.choose_spec spec_l5Trim.ex) α

noncomputable def spec_l5Cmp_L0r {α : Type} (N : Nat) (next : List Int → List Int → Int → Option α) (k0 : Int → Option α) (k1 : Option α) (v107 : List Int) (v108 : List Int) (v109 : Int) : Option α :=
  let x110 := (decide ((0 : Int) ≤ v109))
  bif x110 then
    bif (decide (v109 < (0 : Int))) then
      none
    else
      match v107[v109.toNat]? with
      | some x111 =>
        bif (decide (v109 < (0 : Int))) then
          none
        else
          match v108[v109.toNat]? with
          | some x112 =>
            let x113 := decide (x111 < x112)
            bif x113 then
              k0 (-1 : Int)
            else
              bif (decide (v109 < (0 : Int))) then
                none
              else
                match v107[v109.toNat]? with
                | some x114 =>
                  bif (decide (v109 < (0 : Int))) then
                    none
                  else
                    match v108[v109.toNat]? with
                    | some x115 =>
                      let x116 := decide (x115 < x114)
                      bif x116 then
                        k0 (1 : Int)
                      else
                        let x117 := (IntKind.i64.wrap (v109 - (1 : Int)))
                        next v107 v108 x117
                    | none => none
                | none => none
          | none => none
      | none => none
  else
    k1
noncomputable def spec_l5Cmp_L0.b {α : Type} (N n : Nat) (v107 : List Int) (v108 : List Int) (v109 : Int) (k0 : Int → Option α) (k1 : Option α) : Option α :=
  Nat.rec (motive := fun _ => List Int → List Int → Int → Option α) (fun _ _ _ => none) (fun _ next => spec_l5Cmp_L0r N next k0 k1) n v107 v108 v109
theorem spec_l5Cmp_L0.ex : ∃ f : ((α : Type) → Nat → Nat → List Int → List Int → Int → (Int → Option α) → (Option α) → Option α), f = fun α => @spec_l5Cmp_L0.b α := ⟨_, rfl⟩
noncomputable def spec_l5Cmp_L0 {α : Type} : Nat → Nat → List Int → List Int → Int → (Int → Option α) → (Option α) → Option α := Classical.choose spec_l5Cmp_L0.ex α
theorem spec_l5Cmp_L0.eq : @spec_l5Cmp_L0 = @spec_l5Cmp_L0.b := funext fun α => congrFun (Classical.choose_spec spec_l5Cmp_L0.ex) α
theorem spec_l5Cmp_L0.zero {α : Type} (N : Nat) (v107 : List Int) (v108 : List Int) (v109 : Int) (k0 : Int → Option α) (k1 : Option α) : spec_l5Cmp_L0 N 0 v107 v108 v109 k0 k1 = none := by rw [spec_l5Cmp_L0.eq]; rfl
theorem spec_l5Cmp_L0.succ {α : Type} (N n : Nat) (v107 : List Int) (v108 : List Int) (v109 : Int) (k0 : Int → Option α) (k1 : Option α) : spec_l5Cmp_L0 N (n + 1) v107 v108 v109 k0 k1 = spec_l5Cmp_L0r N (fun y0 y1 y2 => spec_l5Cmp_L0 N n y0 y1 y2 k0 k1) k0 k1 v107 v108 v109 := by rw [spec_l5Cmp_L0.eq]; rfl
/-- loop.example/pinfold/spec.l5Cmp -/
noncomputable def spec_l5Cmp.b {α : Type} (N : Nat) (a97 : List Int) (a98 : List Int) (k0 : Int → Option α) : Option α :=
  let x99 := ((a97.length : Nat) : Int)
  let x100 := ((a98.length : Nat) : Int)
  let x101 := decide (x99 < x100)
  bif x101 then
    k0 (-1 : Int)
  else
    let x102 := ((a97.length : Nat) : Int)
    let x103 := ((a98.length : Nat) : Int)
    let x104 := decide (x103 < x102)
    bif x104 then
      k0 (1 : Int)
    else
      let x105 := ((a97.length : Nat) : Int)
      let x106 := (IntKind.i64.wrap (x105 - (1 : Int)))
      spec_l5Cmp_L0 N N a97 a98 x106
        (fun x118 =>
          k0 x118)
        (
          k0 (0 : Int))
theorem spec_l5Cmp.ex : ∃ f : ((α : Type) → Nat → List Int → List Int → (Int → Option α) → Option α), f = fun α => @spec_l5Cmp.b α := ⟨_, rfl⟩
noncomputable def spec_l5Cmp {α : Type} : Nat → List Int → List Int → (Int → Option α) → Option α := Classical.choose spec_l5Cmp.ex α
theorem spec_l5Cmp.eq : @spec_l5Cmp = @spec_l5Cmp.b := funext fun α => congrFun (Classical.choose_spec spec_l5Cmp.ex) α

noncomputable def spec_l5DivSmall_L0r {α : Type} (N : Nat) (next : List Int → Int → Int → Int → List Int → Option α) (k0 : Int → List Int → Option α) (v131 : List Int) (v132 : Int) (v133 : Int) (v134 : Int) (v135 : List Int) : Option α :=
  let x136 := (decide ((0 : Int) ≤ v134))
  bif x136 then
    let x137 := (IntKind.i64.wrap (v133 * (65536 : Int)))
    bif (decide (v134 < (0 : Int))) then
      none
    else
      match v131[v134.toNat]? with
      | some x138 =>
        let x139 := IntKind.i64.wrap (x137 + x138)
        bif (decide (v132 = (0 : Int))) then
          none
        else
          let x140 := IntKind.i64.wrap (Int.tdiv x139 v132)
          bif (decide (v134 < (0 : Int))) then
            none
          else
            bif decide (v134.toNat < v135.length) then
              match v135[v134.toNat]? with
              | some x141 =>
                let x142 := v135.set v134.toNat x140
                bif (decide (v132 = (0 : Int))) then
                  none
                else
                  let x143 := Int.tmod x139 v132
                  let x144 := (IntKind.i64.wrap (v134 - (1 : Int)))
                  next v131 v132 x143 x144 x142
              | none => none
            else
              none
      | none => none
  else
    k0 v133 v135
noncomputable def spec_l5DivSmall_L0.b {α : Type} (N n : Nat) (v131 : List Int) (v132 : Int) (v133 : Int) (v134 : Int) (v135 : List Int) (k0 : Int → List Int → Option α) : Option α :=
  Nat.rec (motive := fun _ => List Int → Int → Int → Int → List Int → Option α) (fun _ _ _ _ _ => none) (fun _ next => spec_l5DivSmall_L0r N next k0) n v131 v132 v133 v134 v135
theorem spec_l5DivSmall_L0.ex : ∃ f : ((α : Type) → Nat → Nat → List Int → Int → Int → Int → List Int → (Int → List Int → Option α) → Option α), f = fun α => @spec_l5DivSmall_L0.b α := ⟨_, rfl⟩
noncomputable def spec_l5DivSmall_L0 {α : Type} : Nat → Nat → List Int → Int → Int → Int → List Int → (Int → List Int → Option α) → Option α := Classical.choose spec_l5DivSmall_L0.ex α
theorem spec_l5DivSmall_L0.eq : @spec_l5DivSmall_L0 = @spec_l5DivSmall_L0.b := funext fun α => congrFun (Classical.choose_spec spec_l5DivSmall_L0.ex) α
theorem spec_l5DivSmall_L0.zero {α : Type} (N : Nat) (v131 : List Int) (v132 : Int) (v133 : Int) (v134 : Int) (v135 : List Int) (k0 : Int → List Int → Option α) : spec_l5DivSmall_L0 N 0 v131 v132 v133 v134 v135 k0 = none := by rw [spec_l5DivSmall_L0.eq]; rfl
theorem spec_l5DivSmall_L0.succ {α : Type} (N n : Nat) (v131 : List Int) (v132 : Int) (v133 : Int) (v134 : Int) (v135 : List Int) (k0 : Int → List Int → Option α) : spec_l5DivSmall_L0 N (n + 1) v131 v132 v133 v134 v135 k0 = spec_l5DivSmall_L0r N (fun y0 y1 y2 y3 y4 => spec_l5DivSmall_L0 N n y0 y1 y2 y3 y4 k0) k0 v131 v132 v133 v134 v135 := by rw [spec_l5DivSmall_L0.eq]; rfl
/-- loop.example/pinfold/spec.l5DivSmall -/
noncomputable def spec_l5DivSmall.b {α : Type} (N : Nat) (a125 : List Int) (a126 : Int) (k0 : Int → List Int → Option α) : Option α :=
  let x127 := ((a125.length : Nat) : Int)
  bif (decide ((0 : Int) ≤ x127)) then
    bif decide (x127 ≤ x127) then
      bif (decide (x127 ≤ ((8796093022208 : Nat) : Int))) then
        let x128 := (List.replicate x127.toNat (0 : Int))
        let x129 := ((a125.length : Nat) : Int)
        let x130 := (IntKind.i64.wrap (x129 - (1 : Int)))
        spec_l5DivSmall_L0 N N a125 a126 (0 : Int) x130 x128
          (fun x145 x146 =>
            spec_l5Trim N x146
              (fun x147 =>
                k0 x145 x147))
      else
        none
    else
      none
  else
    none
theorem spec_l5DivSmall.ex : ∃ f : ((α : Type) → Nat → List Int → Int → (Int → List Int → Option α) → Option α), f = fun α => @spec_l5DivSmall.b α := ⟨_, rfl⟩
noncomputable def spec_l5DivSmall {α : Type} : Nat → List Int → Int → (Int → List Int → Option α) → Option α := Classical.choose spec_l5DivSmall.ex α
theorem spec_l5DivSmall.eq : @spec_l5DivSmall = @spec_l5DivSmall.b := funext fun α => congrFun (Classical.choose_spec spec_l5DivSmall.ex) α

noncomputable def spec_NatOf_L0r {α : Type} (N : Nat) (next : Int → List Int → Option α) (k0 : List Int → Option α) (v152 : Int) (v153 : List Int) : Option α :=
  let x154 := (decide ((0 : Int) < v152))
  bif x154 then
    let x155 := (Int.tmod v152 (65536 : Int))
    let x156 := IntKind.i64.wrap x155
    let x157 := [x156]
    bif decide (v153.length + x157.length ≤ 8796093022208) then
      let x158 := v153 ++ x157
      let x159 := (IntKind.u64.wrap (Int.tdiv v152 (65536 : Int)))
      next x159 x158
    else
      none
  else
    k0 v153
noncomputable def spec_NatOf_L0.b {α : Type} (N n : Nat) (v152 : Int) (v153 : List Int) (k0 : List Int → Option α) : Option α :=
  Nat.rec (motive := fun _ => Int → List Int → Option α) (fun _ _ => none) (fun _ next => spec_NatOf_L0r N next k0) n v152 v153
theorem spec_NatOf_L0.ex : ∃ f : ((α : Type) → Nat → Nat → Int → List Int → (List Int → Option α) → Option α), f = fun α => @spec_NatOf_L0.b α := ⟨_, rfl⟩
noncomputable def spec_NatOf_L0 {α : Type} : Nat → Nat → Int → List Int → (List Int → Option α) → Option α := Classical.choose spec_NatOf_L0.ex α
theorem spec_NatOf_L0.eq : @spec_NatOf_L0 = @spec_NatOf_L0.b := funext fun α => congrFun (Classical.choose_spec spec_NatOf_L0.ex) α
theorem spec_NatOf_L0.zero {α : Type} (N : Nat) (v152 : Int) (v153 : List Int) (k0 : List Int → Option α) : spec_NatOf_L0 N 0 v152 v153 k0 = none := by rw [spec_NatOf_L0.eq]; rfl
theorem spec_NatOf_L0.succ {α : Type} (N n : Nat) (v152 : Int) (v153 : List Int) (k0 : List Int → Option α) : spec_NatOf_L0 N (n + 1) v152 v153 k0 = spec_NatOf_L0r N (fun y0 y1 => spec_NatOf_L0 N n y0 y1 k0) k0 v152 v153 := by rw [spec_NatOf_L0.eq]; rfl
/-- loop.example/pinfold/spec.NatOf -/
noncomputable def spec_NatOf.b {α : Type} (N : Nat) (a151 : Int) (k0 : List Int → Option α) : Option α :=
  spec_NatOf_L0 N N a151 []
    (fun x160 =>
      k0 x160)
theorem spec_NatOf.ex : ∃ f : ((α : Type) → Nat → Int → (List Int → Option α) → Option α), f = fun α => @spec_NatOf.b α := ⟨_, rfl⟩
noncomputable def spec_NatOf {α : Type} : Nat → Int → (List Int → Option α) → Option α := Classical.choose spec_NatOf.ex α
theorem spec_NatOf.eq : @spec_NatOf = @spec_NatOf.b := funext fun α => congrFun (Classical.choose_spec spec_NatOf.ex) α

noncomputable def spec_l5Mul_L2r {α : Type} (N : Nat) (next : List Int → List Int → Int → Int → Int → List Int → Option α) (k0 : List Int → List Int → Int → Int → List Int → Option α) (v183 : List Int) (v184 : List Int) (v185 : Int) (v186 : Int) (v187 : Int) (v188 : List Int) : Option α :=
  let x189 := ((v184.length : Nat) : Int)
  let x190 := decide (v187 < x189)
  bif x190 then
    let x191 := IntKind.i64.wrap (v185 + v187)
    bif (decide (x191 < (0 : Int))) then
      none
    else
      bif decide (x191.toNat < v188.length) then
        match v188[x191.toNat]? with
        | some x192 =>
          bif (decide (v185 < (0 : Int))) then
            none
          else
            match v183[v185.toNat]? with
            | some x193 =>
              bif (decide (v187 < (0 : Int))) then
                none
              else
                match v184[v187.toNat]? with
                | some x194 =>
                  let x195 := IntKind.i64.wrap (x193 * x194)
                  let x196 := IntKind.i64.wrap (x192 + x195)
                  let x197 := IntKind.i64.wrap (x196 + v186)
                  let x198 := IntKind.i64.wrap (v185 + v187)
                  let x199 := (Int.tmod x197 (65536 : Int))
                  bif (decide (x198 < (0 : Int))) then
                    none
                  else
                    bif decide (x198.toNat < v188.length) then
                      match v188[x198.toNat]? with
                      | some x200 =>
                        let x201 := v188.set x198.toNat x199
                        let x202 := (IntKind.i64.wrap (Int.tdiv x197 (65536 : Int)))
                        let x203 := (IntKind.i64.wrap (v187 + (1 : Int)))
                        next v183 v184 v185 x202 x203 x201
                      | none => none
                    else
                      none
                | none => none
            | none => none
        | none => none
      else
        none
  else
    k0 v183 v184 v185 v186 v188
noncomputable def spec_l5Mul_L2.b {α : Type} (N n : Nat) (v183 : List Int) (v184 : List Int) (v185 : Int) (v186 : Int) (v187 : Int) (v188 : List Int) (k0 : List Int → List Int → Int → Int → List Int → Option α) : Option α :=
  Nat.rec (motive := fun _ => List Int → List Int → Int → Int → Int → List Int → Option α) (fun _ _ _ _ _ _ => none) (fun _ next => spec_l5Mul_L2r N next k0) n v183 v184 v185 v186 v187 v188
theorem spec_l5Mul_L2.ex : ∃ f : ((α : Type) → Nat → Nat → List Int → List Int → Int → Int → Int → List Int → (List Int → List Int → Int → Int → List Int → Option α) → Option α), f = fun α => @spec_l5Mul_L2.b α := ⟨_, rfl⟩
noncomputable def spec_l5Mul_L2 {α : Type} : Nat → Nat → List Int → List Int → Int → Int → Int → List Int → (List Int → List Int → Int → Int → List Int → Option α) → Option α := Classical.choose spec_l5Mul_L2.ex α
theorem spec_l5Mul_L2.eq : @spec_l5Mul_L2 = @spec_l5Mul_L2.b := funext fun α => congrFun (Classical.choose_spec spec_l5Mul_L2.ex) α
theorem spec_l5Mul_L2.zero {α : Type} (N : Nat) (v183 : List Int) (v184 : List Int) (v185 : Int) (v186 : Int) (v187 : Int) (v188 : List Int) (k0 : List Int → List Int → Int → Int → List Int → Option α) : spec_l5Mul_L2 N 0 v183 v184 v185 v186 v187 v188 k0 = none := by rw [spec_l5Mul_L2.eq]; rfl
theorem spec_l5Mul_L2.succ {α : Type} (N n : Nat) (v183 : List Int) (v184 : List Int) (v185 : Int) (v186 : Int) (v187 : Int) (v188 : List Int) (k0 : List Int → List Int → Int → Int → List Int → Option α) : spec_l5Mul_L2 N (n + 1) v183 v184 v185 v186 v187 v188 k0 = spec_l5Mul_L2r N (fun y0 y1 y2 y3 y4 y5 => spec_l5Mul_L2 N n y0 y1 y2 y3 y4 y5 k0) k0 v183 v184 v185 v186 v187 v188 := by rw [spec_l5Mul_L2.eq]; rfl
noncomputable def spec_l5Mul_L0r {α : Type} (N : Nat) (next : List Int → List Int → Int → List Int → Option α) (k0 : List Int → Option α) (v177 : List Int) (v178 : List Int) (v179 : Int) (v180 : List Int) : Option α :=
  let x181 := ((v177.length : Nat) : Int)
  let x182 := decide (v179 < x181)
  bif x182 then
    spec_l5Mul_L2 N N v177 v178 v179 (0 : Int) (0 : Int) v180
      (fun x204 x205 x206 x207 x208 =>
        let x209 := ((x205.length : Nat) : Int)
        let x210 := IntKind.i64.wrap (x206 + x209)
        bif (decide (x210 < (0 : Int))) then
          none
        else
          bif decide (x210.toNat < x208.length) then
            match x208[x210.toNat]? with
            | some x211 =>
              let x212 := x208.set x210.toNat x207
              let x213 := (IntKind.i64.wrap (x206 + (1 : Int)))
              next x204 x205 x213 x212
            | none => none
          else
            none)
  else
    k0 v180
noncomputable def spec_l5Mul_L0.b {α : Type} (N n : Nat) (v177 : List Int) (v178 : List Int) (v179 : Int) (v180 : List Int) (k0 : List Int → Option α) : Option α :=
  Nat.rec (motive := fun _ => List Int → List Int → Int → List Int → Option α) (fun _ _ _ _ => none) (fun _ next => spec_l5Mul_L0r N next k0) n v177 v178 v179 v180
theorem spec_l5Mul_L0.ex : ∃ f : ((α : Type) → Nat → Nat → List Int → List Int → Int → List Int → (List Int → Option α) → Option α), f = fun α => @spec_l5Mul_L0.b α := ⟨_, rfl⟩
noncomputable def spec_l5Mul_L0 {α : Type} : Nat → Nat → List Int → List Int → Int → List Int → (List Int → Option α) → Option α := Classical.choose spec_l5Mul_L0.ex α
theorem spec_l5Mul_L0.eq : @spec_l5Mul_L0 = @spec_l5Mul_L0.b := funext fun α => congrFun (Classical.choose_spec spec_l5Mul_L0.ex) α
theorem spec_l5Mul_L0.zero {α : Type} (N : Nat) (v177 : List Int) (v178 : List Int) (v179 : Int) (v180 : List Int) (k0 : List Int → Option α) : spec_l5Mul_L0 N 0 v177 v178 v179 v180 k0 = none := by rw [spec_l5Mul_L0.eq]; rfl
theorem spec_l5Mul_L0.succ {α : Type} (N n : Nat) (v177 : List Int) (v178 : List Int) (v179 : Int) (v180 : List Int) (k0 : List Int → Option α) : spec_l5Mul_L0 N (n + 1) v177 v178 v179 v180 k0 = spec_l5Mul_L0r N (fun y0 y1 y2 y3 => spec_l5Mul_L0 N n y0 y1 y2 y3 k0) k0 v177 v178 v179 v180 := by rw [spec_l5Mul_L0.eq]; rfl
/-- loop.example/pinfold/spec.l5Mul -/
noncomputable def spec_l5Mul.b {α : Type} (N : Nat) (a171 : List Int) (a172 : List Int) (k0 : List Int → Option α) : Option α :=
  let x173 := ((a171.length : Nat) : Int)
  let x174 := ((a172.length : Nat) : Int)
  let x175 := IntKind.i64.wrap (x173 + x174)
  bif (decide ((0 : Int) ≤ x175)) then
    bif decide (x175 ≤ x175) then
      bif (decide (x175 ≤ ((8796093022208 : Nat) : Int))) then
        let x176 := (List.replicate x175.toNat (0 : Int))
        spec_l5Mul_L0 N N a171 a172 (0 : Int) x176
          (fun x214 =>
            spec_l5Trim N x214
              (fun x215 =>
                k0 x215))
      else
        none
    else
      none
  else
    none
theorem spec_l5Mul.ex : ∃ f : ((α : Type) → Nat → List Int → List Int → (List Int → Option α) → Option α), f = fun α => @spec_l5Mul.b α := ⟨_, rfl⟩
noncomputable def spec_l5Mul {α : Type} : Nat → List Int → List Int → (List Int → Option α) → Option α := Classical.choose spec_l5Mul.ex α
theorem spec_l5Mul.eq : @spec_l5Mul = @spec_l5Mul.b := funext fun α => congrFun (Classical.choose_spec spec_l5Mul.ex) α

/-- loop.example/pinfold/spec.l5Times -/
noncomputable def spec_l5Times.b {α : Type} (N : Nat) (a167 : List Int) (a168 : Int) (k0 : List Int → Option α) : Option α :=
  let x169 := (decide (a168 = (0 : Int)))
  bif x169 then
    k0 []
  else
    let x170 := [a168]
    spec_l5Mul N a167 x170
      (fun x216 =>
        k0 x216)
theorem spec_l5Times.ex : ∃ f : ((α : Type) → Nat → List Int → Int → (List Int → Option α) → Option α), f = fun α => @spec_l5Times.b α := ⟨_, rfl⟩
noncomputable def spec_l5Times {α : Type} : Nat → List Int → Int → (List Int → Option α) → Option α := Classical.choose spec_l5Times.ex α
theorem spec_l5Times.eq : @spec_l5Times = @spec_l5Times.b := funext fun α => congrFun (Classical.choose_spec spec_l5Times.ex) α

noncomputable def spec_l5Top_L0r {α : Type} (N : Nat) (next : List Int → Int → List Int → Option α) (k0 : List Int → Option α) (v229 : List Int) (v230 : Int) (v231 : List Int) : Option α :=
  let x232 := ((v229.length : Nat) : Int)
  let x233 := decide (v230 < x232)
  bif x233 then
    bif (decide (v230 < (0 : Int))) then
      none
    else
      match v229[v230.toNat]? with
      | some x234 =>
        let x235 := [x234]
        bif decide (v231.length + x235.length ≤ 8796093022208) then
          let x236 := v231 ++ x235
          let x237 := (IntKind.i64.wrap (v230 + (1 : Int)))
          next v229 x237 x236
        else
          none
      | none => none
  else
    k0 v231
noncomputable def spec_l5Top_L0.b {α : Type} (N n : Nat) (v229 : List Int) (v230 : Int) (v231 : List Int) (k0 : List Int → Option α) : Option α :=
  Nat.rec (motive := fun _ => List Int → Int → List Int → Option α) (fun _ _ _ => none) (fun _ next => spec_l5Top_L0r N next k0) n v229 v230 v231
theorem spec_l5Top_L0.ex : ∃ f : ((α : Type) → Nat → Nat → List Int → Int → List Int → (List Int → Option α) → Option α), f = fun α => @spec_l5Top_L0.b α := ⟨_, rfl⟩
noncomputable def spec_l5Top_L0 {α : Type} : Nat → Nat → List Int → Int → List Int → (List Int → Option α) → Option α := Classical.choose spec_l5Top_L0.ex α
theorem spec_l5Top_L0.eq : @spec_l5Top_L0 = @spec_l5Top_L0.b := funext fun α => congrFun (Classical.choose_spec spec_l5Top_L0.ex) α
theorem spec_l5Top_L0.zero {α : Type} (N : Nat) (v229 : List Int) (v230 : Int) (v231 : List Int) (k0 : List Int → Option α) : spec_l5Top_L0 N 0 v229 v230 v231 k0 = none := by rw [spec_l5Top_L0.eq]; rfl
theorem spec_l5Top_L0.succ {α : Type} (N n : Nat) (v229 : List Int) (v230 : Int) (v231 : List Int) (k0 : List Int → Option α) : spec_l5Top_L0 N (n + 1) v229 v230 v231 k0 = spec_l5Top_L0r N (fun y0 y1 y2 => spec_l5Top_L0 N n y0 y1 y2 k0) k0 v229 v230 v231 := by rw [spec_l5Top_L0.eq]; rfl
/-- loop.example/pinfold/spec.l5Top -/
noncomputable def spec_l5Top.b {α : Type} (N : Nat) (a227 : List Int) (a228 : Int) (k0 : List Int → Option α) : Option α :=
  spec_l5Top_L0 N N a227 a228 []
    (fun x238 =>
      k0 x238)
theorem spec_l5Top.ex : ∃ f : ((α : Type) → Nat → List Int → Int → (List Int → Option α) → Option α), f = fun α => @spec_l5Top.b α := ⟨_, rfl⟩
noncomputable def spec_l5Top {α : Type} : Nat → List Int → Int → (List Int → Option α) → Option α := Classical.choose spec_l5Top.ex α
theorem spec_l5Top.eq : @spec_l5Top = @spec_l5Top.b := funext fun α => congrFun (Classical.choose_spec spec_l5Top.ex) α

noncomputable def spec_l5Shl_L0r {α : Type} (N : Nat) (next : List Int → Int → List Int → Option α) (k0 : List Int → Option α) (v255 : List Int) (v256 : Int) (v257 : List Int) : Option α :=
  let x258 := ((v255.length : Nat) : Int)
  let x259 := decide (v256 < x258)
  bif x259 then
    bif (decide (v256 < (0 : Int))) then
      none
    else
      match v255[v256.toNat]? with
      | some x260 =>
        let x261 := [x260]
        bif decide (v257.length + x261.length ≤ 8796093022208) then
          let x262 := v257 ++ x261
          let x263 := (IntKind.i64.wrap (v256 + (1 : Int)))
          next v255 x263 x262
        else
          none
      | none => none
  else
    k0 v257
noncomputable def spec_l5Shl_L0.b {α : Type} (N n : Nat) (v255 : List Int) (v256 : Int) (v257 : List Int) (k0 : List Int → Option α) : Option α :=
  Nat.rec (motive := fun _ => List Int → Int → List Int → Option α) (fun _ _ _ => none) (fun _ next => spec_l5Shl_L0r N next k0) n v255 v256 v257
theorem spec_l5Shl_L0.ex : ∃ f : ((α : Type) → Nat → Nat → List Int → Int → List Int → (List Int → Option α) → Option α), f = fun α => @spec_l5Shl_L0.b α := ⟨_, rfl⟩
noncomputable def spec_l5Shl_L0 {α : Type} : Nat → Nat → List Int → Int → List Int → (List Int → Option α) → Option α := Classical.choose spec_l5Shl_L0.ex α
theorem spec_l5Shl_L0.eq : @spec_l5Shl_L0 = @spec_l5Shl_L0.b := funext fun α => congrFun (Classical.choose_spec spec_l5Shl_L0.ex) α
theorem spec_l5Shl_L0.zero {α : Type} (N : Nat) (v255 : List Int) (v256 : Int) (v257 : List Int) (k0 : List Int → Option α) : spec_l5Shl_L0 N 0 v255 v256 v257 k0 = none := by rw [spec_l5Shl_L0.eq]; rfl
theorem spec_l5Shl_L0.succ {α : Type} (N n : Nat) (v255 : List Int) (v256 : Int) (v257 : List Int) (k0 : List Int → Option α) : spec_l5Shl_L0 N (n + 1) v255 v256 v257 k0 = spec_l5Shl_L0r N (fun y0 y1 y2 => spec_l5Shl_L0 N n y0 y1 y2 k0) k0 v255 v256 v257 := by rw [spec_l5Shl_L0.eq]; rfl
/-- loop.example/pinfold/spec.l5Shl -/
noncomputable def spec_l5Shl.b {α : Type} (N : Nat) (a250 : List Int) (a251 : Int) (k0 : List Int → Option α) : Option α :=
  let x252 := ((a250.length : Nat) : Int)
  let x253 := (decide (x252 = (0 : Int)))
  bif x253 then
    k0 []
  else
    bif (decide ((0 : Int) ≤ a251)) then
      bif decide (a251 ≤ a251) then
        bif (decide (a251 ≤ ((8796093022208 : Nat) : Int))) then
          let x254 := (List.replicate a251.toNat (0 : Int))
          spec_l5Shl_L0 N N a250 (0 : Int) x254
            (fun x264 =>
              k0 x264)
        else
          none
      else
        none
    else
      none
theorem spec_l5Shl.ex : ∃ f : ((α : Type) → Nat → List Int → Int → (List Int → Option α) → Option α), f = fun α => @spec_l5Shl.b α := ⟨_, rfl⟩
noncomputable def spec_l5Shl {α : Type} : Nat → List Int → Int → (List Int → Option α) → Option α := Classical.choose spec_l5Shl.ex α
theorem spec_l5Shl.eq : @spec_l5Shl = @spec_l5Shl.b := funext fun α => congrFun (Classical.choose_spec spec_l5Shl.ex) α

/-- loop.example/pinfold/spec.l5At -/
noncomputable def spec_l5At.b {α : Type} (N : Nat) (a288 : List Int) (a289 : Int) (k0 : Int → Option α) : Option α :=
  let x290 := ((a288.length : Nat) : Int)
  let x291 := decide (a289 < x290)
  bif x291 then
    bif (decide (a289 < (0 : Int))) then
      none
    else
      match a288[a289.toNat]? with
      | some x292 =>
        k0 x292
      | none => none
  else
    k0 (0 : Int)
theorem spec_l5At.ex : ∃ f : ((α : Type) → Nat → List Int → Int → (Int → Option α) → Option α), f = fun α => @spec_l5At.b α := ⟨_, rfl⟩
noncomputable def spec_l5At {α : Type} : Nat → List Int → Int → (Int → Option α) → Option α := Classical.choose spec_l5At.ex α
theorem spec_l5At.eq : @spec_l5At = @spec_l5At.b := funext fun α => congrFun (Classical.choose_spec spec_l5At.ex) α

noncomputable def spec_l5Add_J2.b {α : Type} (N : Nat) (v272 : List Int) (v273 : List Int) (v274 : Int) (k0 : List Int → List Int → Int → Option α) : Option α :=
  let x275 := ((v273.length : Nat) : Int)
  let x276 := decide (v274 < x275)
  bif x276 then
    let x277 := ((v273.length : Nat) : Int)
    k0 v272 v273 x277
  else
    k0 v272 v273 v274
theorem spec_l5Add_J2.ex : ∃ f : ((α : Type) → Nat → List Int → List Int → Int → (List Int → List Int → Int → Option α) → Option α), f = fun α => @spec_l5Add_J2.b α := ⟨_, rfl⟩
noncomputable def spec_l5Add_J2 {α : Type} : Nat → List Int → List Int → Int → (List Int → List Int → Int → Option α) → Option α := Classical.choose spec_l5Add_J2.ex α
theorem spec_l5Add_J2.eq : @spec_l5Add_J2 = @spec_l5Add_J2.b := funext fun α => congrFun (Classical.choose_spec spec_l5Add_J2.ex) α
noncomputable def spec_l5Add_L0r {α : Type} (N : Nat) (next : List Int → List Int → Int → Int → Int → List Int → Option α) (k0 : Int → List Int → Option α) (v281 : List Int) (v282 : List Int) (v283 : Int) (v284 : Int) (v285 : Int) (v286 : List Int) : Option α :=
  let x287 := decide (v285 < v283)
  bif x287 then
    spec_l5At N v281 v285
      (fun x293 =>
        spec_l5At N v282 v285
          (fun x294 =>
            let x295 := IntKind.i64.wrap (x293 + x294)
            let x296 := IntKind.i64.wrap (x295 + v284)
            let x297 := (Int.tmod x296 (65536 : Int))
            let x298 := [x297]
            bif decide (v286.length + x298.length ≤ 8796093022208) then
              let x299 := v286 ++ x298
              let x300 := (IntKind.i64.wrap (Int.tdiv x296 (65536 : Int)))
              let x301 := (IntKind.i64.wrap (v285 + (1 : Int)))
              next v281 v282 v283 x300 x301 x299
            else
              none))
  else
    k0 v284 v286
noncomputable def spec_l5Add_L0.b {α : Type} (N n : Nat) (v281 : List Int) (v282 : List Int) (v283 : Int) (v284 : Int) (v285 : Int) (v286 : List Int) (k0 : Int → List Int → Option α) : Option α :=
  Nat.rec (motive := fun _ => List Int → List Int → Int → Int → Int → List Int → Option α) (fun _ _ _ _ _ _ => none) (fun _ next => spec_l5Add_L0r N next k0) n v281 v282 v283 v284 v285 v286
theorem spec_l5Add_L0.ex : ∃ f : ((α : Type) → Nat → Nat → List Int → List Int → Int → Int → Int → List Int → (Int → List Int → Option α) → Option α), f = fun α => @spec_l5Add_L0.b α := ⟨_, rfl⟩
noncomputable def spec_l5Add_L0 {α : Type} : Nat → Nat → List Int → List Int → Int → Int → Int → List Int → (Int → List Int → Option α) → Option α := Classical.choose spec_l5Add_L0.ex α
theorem spec_l5Add_L0.eq : @spec_l5Add_L0 = @spec_l5Add_L0.b := funext fun α => congrFun (Classical.choose_spec spec_l5Add_L0.ex) α
theorem spec_l5Add_L0.zero {α : Type} (N : Nat) (v281 : List Int) (v282 : List Int) (v283 : Int) (v284 : Int) (v285 : Int) (v286 : List Int) (k0 : Int → List Int → Option α) : spec_l5Add_L0 N 0 v281 v282 v283 v284 v285 v286 k0 = none := by rw [spec_l5Add_L0.eq]; rfl
theorem spec_l5Add_L0.succ {α : Type} (N n : Nat) (v281 : List Int) (v282 : List Int) (v283 : Int) (v284 : Int) (v285 : Int) (v286 : List Int) (k0 : Int → List Int → Option α) : spec_l5Add_L0 N (n + 1) v281 v282 v283 v284 v285 v286 k0 = spec_l5Add_L0r N (fun y0 y1 y2 y3 y4 y5 => spec_l5Add_L0 N n y0 y1 y2 y3 y4 y5 k0) k0 v281 v282 v283 v284 v285 v286 := by rw [spec_l5Add_L0.eq]; rfl
noncomputable def spec_l5Add_J12.b {α : Type} (N : Nat) (v304 : Int) (v305 : List Int) (k0 : List Int → Option α) : Option α :=
  let x306 := (decide ((0 : Int) < v304))
  bif x306 then
    let x307 := [v304]
    bif decide (v305.length + x307.length ≤ 8796093022208) then
      let x308 := v305 ++ x307
      k0 x308
    else
      none
  else
    k0 v305
theorem spec_l5Add_J12.ex : ∃ f : ((α : Type) → Nat → Int → List Int → (List Int → Option α) → Option α), f = fun α => @spec_l5Add_J12.b α := ⟨_, rfl⟩
noncomputable def spec_l5Add_J12 {α : Type} : Nat → Int → List Int → (List Int → Option α) → Option α := Classical.choose spec_l5Add_J12.ex α
theorem spec_l5Add_J12.eq : @spec_l5Add_J12 = @spec_l5Add_J12.b := funext fun α => congrFun (Classical.choose_spec spec_l5Add_J12.ex) α
/-- loop.example/pinfold/spec.l5Add -/
noncomputable def spec_l5Add.b {α : Type} (N : Nat) (a269 : List Int) (a270 : List Int) (k0 : List Int → Option α) : Option α :=
  let x271 := ((a269.length : Nat) : Int)
  spec_l5Add_J2 N a269 a270 x271
    (fun x278 x279 x280 =>
      spec_l5Add_L0 N N x278 x279 x280 (0 : Int) (0 : Int) []
        (fun x302 x303 =>
          spec_l5Add_J12 N x302 x303
            (fun x309 =>
              k0 x309)))
theorem spec_l5Add.ex : ∃ f : ((α : Type) → Nat → List Int → List Int → (List Int → Option α) → Option α), f = fun α => @spec_l5Add.b α := ⟨_, rfl⟩
noncomputable def spec_l5Add {α : Type} : Nat → List Int → List Int → (List Int → Option α) → Option α := Classical.choose spec_l5Add.ex α
theorem spec_l5Add.eq : @spec_l5Add = @spec_l5Add.b := funext fun α => congrFun (Classical.choose_spec spec_l5Add.ex) α

noncomputable def spec_l5Sub_J8.b {α : Type} (N : Nat) (v362 : List Int) (v363 : List Int) (v364 : Int) (v365 : Int) (v366 : Int) (v367 : List Int) (k0 : List Int → List Int → Int → Int → Int → List Int → Option α) : Option α :=
  let x368 := (decide (v366 < (0 : Int)))
  bif x368 then
    let x369 := (IntKind.i64.wrap (v366 + (65536 : Int)))
    k0 v362 v363 (1 : Int) v365 x369 v367
  else
    k0 v362 v363 v364 v365 v366 v367
theorem spec_l5Sub_J8.ex : ∃ f : ((α : Type) → Nat → List Int → List Int → Int → Int → Int → List Int → (List Int → List Int → Int → Int → Int → List Int → Option α) → Option α), f = fun α => @spec_l5Sub_J8.b α := ⟨_, rfl⟩
noncomputable def spec_l5Sub_J8 {α : Type} : Nat → List Int → List Int → Int → Int → Int → List Int → (List Int → List Int → Int → Int → Int → List Int → Option α) → Option α := Classical.choose spec_l5Sub_J8.ex α
theorem spec_l5Sub_J8.eq : @spec_l5Sub_J8 = @spec_l5Sub_J8.b := funext fun α => congrFun (Classical.choose_spec spec_l5Sub_J8.ex) α
noncomputable def spec_l5Sub_L0r {α : Type} (N : Nat) (next : List Int → List Int → Int → Int → List Int → Option α) (k0 : List Int → Option α) (v351 : List Int) (v352 : List Int) (v353 : Int) (v354 : Int) (v355 : List Int) : Option α :=
  let x356 := ((v351.length : Nat) : Int)
  let x357 := decide (v354 < x356)
  bif x357 then
    bif (decide (v354 < (0 : Int))) then
      none
    else
      match v351[v354.toNat]? with
      | some x358 =>
        spec_l5At N v352 v354
          (fun x359 =>
            let x360 := IntKind.i64.wrap (x358 - x359)
            let x361 := IntKind.i64.wrap (x360 - v353)
            spec_l5Sub_J8 N v351 v352 (0 : Int) v354 x361 v355
              (fun x370 x371 x372 x373 x374 x375 =>
                let x376 := [x374]
                bif decide (x375.length + x376.length ≤ 8796093022208) then
                  let x377 := x375 ++ x376
                  let x378 := (IntKind.i64.wrap (x373 + (1 : Int)))
                  next x370 x371 x372 x378 x377
                else
                  none))
      | none => none
  else
    k0 v355
noncomputable def spec_l5Sub_L0.b {α : Type} (N n : Nat) (v351 : List Int) (v352 : List Int) (v353 : Int) (v354 : Int) (v355 : List Int) (k0 : List Int → Option α) : Option α :=
  Nat.rec (motive := fun _ => List Int → List Int → Int → Int → List Int → Option α) (fun _ _ _ _ _ => none) (fun _ next => spec_l5Sub_L0r N next k0) n v351 v352 v353 v354 v355
theorem spec_l5Sub_L0.ex : ∃ f : ((α : Type) → Nat → Nat → List Int → List Int → Int → Int → List Int → (List Int → Option α) → Option α), f = fun α => @spec_l5Sub_L0.b α := ⟨_, rfl⟩
noncomputable def spec_l5Sub_L0 {α : Type} : Nat → Nat → List Int → List Int → Int → Int → List Int → (List Int → Option α) → Option α := Classical.choose spec_l5Sub_L0.ex α
theorem spec_l5Sub_L0.eq : @spec_l5Sub_L0 = @spec_l5Sub_L0.b := funext fun α => congrFun (Classical.choose_spec spec_l5Sub_L0.ex) α
theorem spec_l5Sub_L0.zero {α : Type} (N : Nat) (v351 : List Int) (v352 : List Int) (v353 : Int) (v354 : Int) (v355 : List Int) (k0 : List Int → Option α) : spec_l5Sub_L0 N 0 v351 v352 v353 v354 v355 k0 = none := by rw [spec_l5Sub_L0.eq]; rfl
theorem spec_l5Sub_L0.succ {α : Type} (N n : Nat) (v351 : List Int) (v352 : List Int) (v353 : Int) (v354 : Int) (v355 : List Int) (k0 : List Int → Option α) : spec_l5Sub_L0 N (n + 1) v351 v352 v353 v354 v355 k0 = spec_l5Sub_L0r N (fun y0 y1 y2 y3 y4 => spec_l5Sub_L0 N n y0 y1 y2 y3 y4 k0) k0 v351 v352 v353 v354 v355 := by rw [spec_l5Sub_L0.eq]; rfl
/-- loop.example/pinfold/spec.l5Sub -/
noncomputable def spec_l5Sub.b {α : Type} (N : Nat) (a349 : List Int) (a350 : List Int) (k0 : List Int → Option α) : Option α :=
  spec_l5Sub_L0 N N a349 a350 (0 : Int) (0 : Int) []
    (fun x379 =>
      spec_l5Trim N x379
        (fun x380 =>
          k0 x380))
theorem spec_l5Sub.ex : ∃ f : ((α : Type) → Nat → List Int → List Int → (List Int → Option α) → Option α), f = fun α => @spec_l5Sub.b α := ⟨_, rfl⟩
noncomputable def spec_l5Sub {α : Type} : Nat → List Int → List Int → (List Int → Option α) → Option α := Classical.choose spec_l5Sub.ex α
theorem spec_l5Sub.eq : @spec_l5Sub = @spec_l5Sub.b := funext fun α => congrFun (Classical.choose_spec spec_l5Sub.ex) α

noncomputable def spec_l5Div_J17.b {α : Type} (N : Nat) (v320 : Int) (v321 : Int) (v322 : Int) (v323 : Int) (v324 : List Int) (v325 : List Int) (v326 : List Int) (v327 : List Int) (k0 : Int → Int → Int → Int → List Int → List Int → List Int → List Int → Option α) : Option α :=
  let x328 := (decide ((65536 : Int) ≤ v323))
  bif x328 then
    k0 v320 v321 v322 (65535 : Int) v324 v325 v326 v327
  else
    k0 v320 v321 v322 v323 v324 v325 v326 v327
theorem spec_l5Div_J17.ex : ∃ f : ((α : Type) → Nat → Int → Int → Int → Int → List Int → List Int → List Int → List Int → (Int → Int → Int → Int → List Int → List Int → List Int → List Int → Option α) → Option α), f = fun α => @spec_l5Div_J17.b α := ⟨_, rfl⟩
noncomputable def spec_l5Div_J17 {α : Type} : Nat → Int → Int → Int → Int → List Int → List Int → List Int → List Int → (Int → Int → Int → Int → List Int → List Int → List Int → List Int → Option α) → Option α := Classical.choose spec_l5Div_J17.ex α
theorem spec_l5Div_J17.eq : @spec_l5Div_J17 = @spec_l5Div_J17.b := funext fun α => congrFun (Classical.choose_spec spec_l5Div_J17.ex) α
noncomputable def spec_l5Div_L2r {α : Type} (N : Nat) (next : Int → Int → Int → Int → List Int → List Int → List Int → List Int → List Int → Option α) (k0 : Int → Int → Int → Int → List Int → List Int → List Int → List Int → List Int → Option α) (v338 : Int) (v339 : Int) (v340 : Int) (v341 : Int) (v342 : List Int) (v343 : List Int) (v344 : List Int) (v345 : List Int) (v346 : List Int) : Option α :=
  spec_l5Cmp N v346 v345
    (fun x347 =>
      let x348 := (decide ((0 : Int) < x347))
      bif x348 then
        spec_l5Sub N v346 v343
          (fun x381 =>
            let x382 := (IntKind.i64.wrap (v341 - (1 : Int)))
            next v338 v339 v340 x382 v342 v343 v344 v345 x381)
      else
        k0 v338 v339 v340 v341 v342 v343 v344 v345 v346)
noncomputable def spec_l5Div_L2.b {α : Type} (N n : Nat) (v338 : Int) (v339 : Int) (v340 : Int) (v341 : Int) (v342 : List Int) (v343 : List Int) (v344 : List Int) (v345 : List Int) (v346 : List Int) (k0 : Int → Int → Int → Int → List Int → List Int → List Int → List Int → List Int → Option α) : Option α :=
  Nat.rec (motive := fun _ => Int → Int → Int → Int → List Int → List Int → List Int → List Int → List Int → Option α) (fun _ _ _ _ _ _ _ _ _ => none) (fun _ next => spec_l5Div_L2r N next k0) n v338 v339 v340 v341 v342 v343 v344 v345 v346
theorem spec_l5Div_L2.ex : ∃ f : ((α : Type) → Nat → Nat → Int → Int → Int → Int → List Int → List Int → List Int → List Int → List Int → (Int → Int → Int → Int → List Int → List Int → List Int → List Int → List Int → Option α) → Option α), f = fun α => @spec_l5Div_L2.b α := ⟨_, rfl⟩
noncomputable def spec_l5Div_L2 {α : Type} : Nat → Nat → Int → Int → Int → Int → List Int → List Int → List Int → List Int → List Int → (Int → Int → Int → Int → List Int → List Int → List Int → List Int → List Int → Option α) → Option α := Classical.choose spec_l5Div_L2.ex α
theorem spec_l5Div_L2.eq : @spec_l5Div_L2 = @spec_l5Div_L2.b := funext fun α => congrFun (Classical.choose_spec spec_l5Div_L2.ex) α
theorem spec_l5Div_L2.zero {α : Type} (N : Nat) (v338 : Int) (v339 : Int) (v340 : Int) (v341 : Int) (v342 : List Int) (v343 : List Int) (v344 : List Int) (v345 : List Int) (v346 : List Int) (k0 : Int → Int → Int → Int → List Int → List Int → List Int → List Int → List Int → Option α) : spec_l5Div_L2 N 0 v338 v339 v340 v341 v342 v343 v344 v345 v346 k0 = none := by rw [spec_l5Div_L2.eq]; rfl
theorem spec_l5Div_L2.succ {α : Type} (N n : Nat) (v338 : Int) (v339 : Int) (v340 : Int) (v341 : Int) (v342 : List Int) (v343 : List Int) (v344 : List Int) (v345 : List Int) (v346 : List Int) (k0 : Int → Int → Int → Int → List Int → List Int → List Int → List Int → List Int → Option α) : spec_l5Div_L2 N (n + 1) v338 v339 v340 v341 v342 v343 v344 v345 v346 k0 = spec_l5Div_L2r N (fun y0 y1 y2 y3 y4 y5 y6 y7 y8 => spec_l5Div_L2 N n y0 y1 y2 y3 y4 y5 y6 y7 y8 k0) k0 v338 v339 v340 v341 v342 v343 v344 v345 v346 := by rw [spec_l5Div_L2.eq]; rfl
noncomputable def spec_l5Div_L0r {α : Type} (N : Nat) (next : Int → Int → Int → List Int → List Int → List Int → List Int → Option α) (k0 : Int → List Int → List Int → Option α) (v242 : Int) (v243 : Int) (v244 : Int) (v245 : List Int) (v246 : List Int) (v247 : List Int) (v248 : List Int) : Option α :=
  let x249 := (decide ((0 : Int) ≤ v244))
  bif x249 then
    spec_l5Shl N v248 (1 : Int)
      (fun x265 =>
        bif (decide (v244 < (0 : Int))) then
          none
        else
          bif decide (v244.toNat < v245.length) then
            match v245[v244.toNat]? with
            | some x266 =>
              let x267 := IntKind.u64.wrap x266
              spec_NatOf N x267
                (fun x268 =>
                  spec_l5Add N x265 x268
                    (fun x310 =>
                      spec_l5Trim N x310
                        (fun x311 =>
                          spec_l5At N x311 v243
                            (fun x312 =>
                              let x313 := (IntKind.i64.wrap (x312 * (65536 : Int)))
                              let x314 := (IntKind.i64.wrap (v243 - (1 : Int)))
                              spec_l5At N x311 x314
                                (fun x315 =>
                                  let x316 := IntKind.i64.wrap (x313 + x315)
                                  let x317 := (IntKind.i64.wrap (v243 - (1 : Int)))
                                  bif (decide (x317 < (0 : Int))) then
                                    none
                                  else
                                    bif decide (x317.toNat < v246.length) then
                                      match v246[x317.toNat]? with
                                      | some x318 =>
                                        bif (decide (x318 = (0 : Int))) then
                                          none
                                        else
                                          let x319 := IntKind.i64.wrap (Int.tdiv x316 x318)
                                          spec_l5Div_J17 N v242 v243 v244 x319 v245 v246 v247 x311
                                            (fun x329 x330 x331 x332 x333 x334 x335 x336 =>
                                              spec_l5Times N x334 x332
                                                (fun x337 =>
                                                  spec_l5Div_L2 N N x329 x330 x331 x332 x333 x334 x335 x336 x337
                                                    (fun x383 x384 x385 x386 x387 x388 x389 x390 x391 =>
                                                      bif (decide (x385 < (0 : Int))) then
                                                        none
                                                      else
                                                        bif decide (x385.toNat < x389.length) then
                                                          match x389[x385.toNat]? with
                                                          | some x392 =>
                                                            let x393 := x389.set x385.toNat x386
                                                            spec_l5Sub N x390 x391
                                                              (fun x394 =>
                                                                let x395 := (IntKind.i64.wrap (x385 - (1 : Int)))
                                                                next x383 x384 x395 x387 x388 x393 x394)
                                                          | none => none
                                                        else
                                                          none)))
                                      | none => none
                                    else
                                      none)))))
            | none => none
          else
            none)
  else
    k0 v242 v247 v248
noncomputable def spec_l5Div_L0.b {α : Type} (N n : Nat) (v242 : Int) (v243 : Int) (v244 : Int) (v245 : List Int) (v246 : List Int) (v247 : List Int) (v248 : List Int) (k0 : Int → List Int → List Int → Option α) : Option α :=
  Nat.rec (motive := fun _ => Int → Int → Int → List Int → List Int → List Int → List Int → Option α) (fun _ _ _ _ _ _ _ => none) (fun _ next => spec_l5Div_L0r N next k0) n v242 v243 v244 v245 v246 v247 v248
theorem spec_l5Div_L0.ex : ∃ f : ((α : Type) → Nat → Nat → Int → Int → Int → List Int → List Int → List Int → List Int → (Int → List Int → List Int → Option α) → Option α), f = fun α => @spec_l5Div_L0.b α := ⟨_, rfl⟩
noncomputable def spec_l5Div_L0 {α : Type} : Nat → Nat → Int → Int → Int → List Int → List Int → List Int → List Int → (Int → List Int → List Int → Option α) → Option α := Classical.choose spec_l5Div_L0.ex α
theorem spec_l5Div_L0.eq : @spec_l5Div_L0 = @spec_l5Div_L0.b := funext fun α => congrFun (Classical.choose_spec spec_l5Div_L0.ex) α
theorem spec_l5Div_L0.zero {α : Type} (N : Nat) (v242 : Int) (v243 : Int) (v244 : Int) (v245 : List Int) (v246 : List Int) (v247 : List Int) (v248 : List Int) (k0 : Int → List Int → List Int → Option α) : spec_l5Div_L0 N 0 v242 v243 v244 v245 v246 v247 v248 k0 = none := by rw [spec_l5Div_L0.eq]; rfl
theorem spec_l5Div_L0.succ {α : Type} (N n : Nat) (v242 : Int) (v243 : Int) (v244 : Int) (v245 : List Int) (v246 : List Int) (v247 : List Int) (v248 : List Int) (k0 : Int → List Int → List Int → Option α) : spec_l5Div_L0 N (n + 1) v242 v243 v244 v245 v246 v247 v248 k0 = spec_l5Div_L0r N (fun y0 y1 y2 y3 y4 y5 y6 => spec_l5Div_L0 N n y0 y1 y2 y3 y4 y5 y6 k0) k0 v242 v243 v244 v245 v246 v247 v248 := by rw [spec_l5Div_L0.eq]; rfl
/-- loop.example/pinfold/spec.l5Div -/
noncomputable def spec_l5Div.b {α : Type} (N : Nat) (a95 : List Int) (a96 : List Int) (k0 : List Int → List Int → Option α) : Option α :=
  spec_l5Cmp N a95 a96
    (fun x119 =>
      let x120 := (decide (x119 < (0 : Int)))
      bif x120 then
        spec_l5Trim N a95
          (fun x121 =>
            k0 [] x121)
      else
        let x122 := ((a96.length : Nat) : Int)
        let x123 := (decide (x122 = (1 : Int)))
        bif x123 then
          match a96[0]? with
          | some x124 =>
            spec_l5DivSmall N a95 x124
              (fun x148 x149 =>
                let x150 := IntKind.u64.wrap x148
                spec_NatOf N x150
                  (fun x161 =>
                    k0 x149 x161))
          | none => none
        else
          let x162 := ((a96.length : Nat) : Int)
          let x163 := (IntKind.i64.wrap (x162 - (1 : Int)))
          bif (decide (x163 < (0 : Int))) then
            none
          else
            match a96[x163.toNat]? with
            | some x164 =>
              let x165 := (IntKind.i64.wrap (x164 + (1 : Int)))
              bif (decide (x165 = (0 : Int))) then
                none
              else
                let x166 := (IntKind.i64.wrap (Int.tdiv (65536 : Int) x165))
                spec_l5Times N a95 x166
                  (fun x217 =>
                    spec_l5Times N a96 x166
                      (fun x218 =>
                        let x219 := ((x218.length : Nat) : Int)
                        let x220 := ((x217.length : Nat) : Int)
                        let x221 := IntKind.i64.wrap (x220 - x219)
                        let x222 := (IntKind.i64.wrap (x221 + (1 : Int)))
                        bif (decide ((0 : Int) ≤ x222)) then
                          bif decide (x222 ≤ x222) then
                            bif (decide (x222 ≤ ((8796093022208 : Nat) : Int))) then
                              let x223 := (List.replicate x222.toNat (0 : Int))
                              let x224 := ((x217.length : Nat) : Int)
                              let x225 := IntKind.i64.wrap (x224 - x219)
                              let x226 := (IntKind.i64.wrap (x225 + (1 : Int)))
                              spec_l5Top N x217 x226
                                (fun x239 =>
                                  let x240 := ((x217.length : Nat) : Int)
                                  let x241 := IntKind.i64.wrap (x240 - x219)
                                  spec_l5Div_L0 N N x166 x219 x241 x217 x218 x223 x239
                                    (fun x396 x397 x398 =>
                                      spec_l5DivSmall N x398 x396
                                        (fun _ x400 =>
                                          spec_l5Trim N x397
                                            (fun x401 =>
                                              k0 x401 x400))))
                            else
                              none
                          else
                            none
                        else
                          none))
            | none => none)
theorem spec_l5Div.ex : ∃ f : ((α : Type) → Nat → List Int → List Int → (List Int → List Int → Option α) → Option α), f = fun α => @spec_l5Div.b α := ⟨_, rfl⟩
noncomputable def spec_l5Div {α : Type} : Nat → List Int → List Int → (List Int → List Int → Option α) → Option α := Classical.choose spec_l5Div.ex α
theorem spec_l5Div.eq : @spec_l5Div = @spec_l5Div.b := funext fun α => congrFun (Classical.choose_spec spec_l5Div.ex) α

noncomputable def spec_l5Gcd_L0r {α : Type} (N : Nat) (next : List Int → List Int → Option α) (k0 : List Int → Option α) (v91 : List Int) (v92 : List Int) : Option α :=
  let x93 := ((v92.length : Nat) : Int)
  let x94 := (decide ((0 : Int) < x93))
  bif x94 then
    spec_l5Div N v91 v92
      (fun _ x403 =>
        next v92 x403)
  else
    k0 v91
noncomputable def spec_l5Gcd_L0.b {α : Type} (N n : Nat) (v91 : List Int) (v92 : List Int) (k0 : List Int → Option α) : Option α :=
  Nat.rec (motive := fun _ => List Int → List Int → Option α) (fun _ _ => none) (fun _ next => spec_l5Gcd_L0r N next k0) n v91 v92
theorem spec_l5Gcd_L0.ex : ∃ f : ((α : Type) → Nat → Nat → List Int → List Int → (List Int → Option α) → Option α), f = fun α => @spec_l5Gcd_L0.b α := ⟨_, rfl⟩
noncomputable def spec_l5Gcd_L0 {α : Type} : Nat → Nat → List Int → List Int → (List Int → Option α) → Option α := Classical.choose spec_l5Gcd_L0.ex α
theorem spec_l5Gcd_L0.eq : @spec_l5Gcd_L0 = @spec_l5Gcd_L0.b := funext fun α => congrFun (Classical.choose_spec spec_l5Gcd_L0.ex) α
theorem spec_l5Gcd_L0.zero {α : Type} (N : Nat) (v91 : List Int) (v92 : List Int) (k0 : List Int → Option α) : spec_l5Gcd_L0 N 0 v91 v92 k0 = none := by rw [spec_l5Gcd_L0.eq]; rfl
theorem spec_l5Gcd_L0.succ {α : Type} (N n : Nat) (v91 : List Int) (v92 : List Int) (k0 : List Int → Option α) : spec_l5Gcd_L0 N (n + 1) v91 v92 k0 = spec_l5Gcd_L0r N (fun y0 y1 => spec_l5Gcd_L0 N n y0 y1 k0) k0 v91 v92 := by rw [spec_l5Gcd_L0.eq]; rfl
/-- loop.example/pinfold/spec.l5Gcd -/
noncomputable def spec_l5Gcd.b {α : Type} (N : Nat) (a66 : List Int) (a67 : List Int) (k0 : List Int → Option α) : Option α :=
  spec_l5Trim N a66
    (fun x89 =>
      spec_l5Trim N a67
        (fun x90 =>
          spec_l5Gcd_L0 N N x89 x90
            (fun x404 =>
              k0 x404)))
theorem spec_l5Gcd.ex : ∃ f : ((α : Type) → Nat → List Int → List Int → (List Int → Option α) → Option α), f = fun α => @spec_l5Gcd.b α := ⟨_, rfl⟩
noncomputable def spec_l5Gcd {α : Type} : Nat → List Int → List Int → (List Int → Option α) → Option α := Classical.choose spec_l5Gcd.ex α
theorem spec_l5Gcd.eq : @spec_l5Gcd = @spec_l5Gcd.b := funext fun α => congrFun (Classical.choose_spec spec_l5Gcd.ex) α

/-- loop.example/pinfold/spec.l6One -/
noncomputable def spec_l6One.b {α : Type} (N : Nat) (a406 : List Int) (k0 : Bool → Option α) : Option α :=
  let x407 := ((a406.length : Nat) : Int)
  let x408 := (decide (x407 = (1 : Int)))
  bif x408 then
    match a406[0]? with
    | some x409 =>
      let x410 := (decide (x409 = (1 : Int)))
      k0 x410
    | none => none
  else
    k0 false
theorem spec_l6One.ex : ∃ f : ((α : Type) → Nat → List Int → (Bool → Option α) → Option α), f = fun α => @spec_l6One.b α := ⟨_, rfl⟩
noncomputable def spec_l6One {α : Type} : Nat → List Int → (Bool → Option α) → Option α := Classical.choose spec_l6One.ex α
theorem spec_l6One.eq : @spec_l6One = @spec_l6One.b := funext fun α => congrFun (Classical.choose_spec spec_l6One.ex) α

/-- loop.example/pinfold/spec.FracOk -/
noncomputable def spec_FracOk.b {α : Type} (N : Nat) (a37 : Bool × (List Int) × (List Int) × Unit) (k0 : Bool → Option α) : Option α :=
  spec_NatOk N a37.2.1
    (fun x58 =>
      let x59 := !x58
      bif x59 then
        k0 false
      else
        spec_NatOk N a37.2.2.1
          (fun x60 =>
            let x61 := !x60
            bif x61 then
              k0 false
            else
              let x62 := ((a37.2.2.1.length : Nat) : Int)
              let x63 := (decide (x62 = (0 : Int)))
              bif x63 then
                k0 false
              else
                let x64 := ((a37.2.1.length : Nat) : Int)
                let x65 := (decide (x64 = (0 : Int)))
                bif x65 then
                  bif a37.1 then
                    k0 false
                  else
                    spec_l5Gcd N a37.2.1 a37.2.2.1
                      (fun x405 =>
                        spec_l6One N x405
                          (fun x411 =>
                            k0 x411))
                else
                  spec_l5Gcd N a37.2.1 a37.2.2.1
                    (fun x412 =>
                      spec_l6One N x412
                        (fun x413 =>
                          k0 x413))))
theorem spec_FracOk.ex : ∃ f : ((α : Type) → Nat → (Bool × (List Int) × (List Int) × Unit) → (Bool → Option α) → Option α), f = fun α => @spec_FracOk.b α := ⟨_, rfl⟩
noncomputable def spec_FracOk {α : Type} : Nat → (Bool × (List Int) × (List Int) × Unit) → (Bool → Option α) → Option α := Classical.choose spec_FracOk.ex α
theorem spec_FracOk.eq : @spec_FracOk = @spec_FracOk.b := funext fun α => congrFun (Classical.choose_spec spec_FracOk.ex) α

noncomputable def spec_NatPow_L0r {α : Type} (N : Nat) (next : List Int → Int → Int → List Int → Option α) (k0 : Bool → List Int → Option α) (k1 : List Int → Option α) (v425 : List Int) (v426 : Int) (v427 : Int) (v428 : List Int) : Option α :=
  let x429 := decide (v427 < v426)
  bif x429 then
    spec_l5Mul N v428 v425
      (fun x430 =>
        let x431 := ((x430.length : Nat) : Int)
        let x432 := (decide ((256 : Int) < x431))
        bif x432 then
          k0 false []
        else
          let x433 := (IntKind.i64.wrap (v427 + (1 : Int)))
          next v425 v426 x433 x430)
  else
    k1 v428
noncomputable def spec_NatPow_L0.b {α : Type} (N n : Nat) (v425 : List Int) (v426 : Int) (v427 : Int) (v428 : List Int) (k0 : Bool → List Int → Option α) (k1 : List Int → Option α) : Option α :=
  Nat.rec (motive := fun _ => List Int → Int → Int → List Int → Option α) (fun _ _ _ _ => none) (fun _ next => spec_NatPow_L0r N next k0 k1) n v425 v426 v427 v428
theorem spec_NatPow_L0.ex : ∃ f : ((α : Type) → Nat → Nat → List Int → Int → Int → List Int → (Bool → List Int → Option α) → (List Int → Option α) → Option α), f = fun α => @spec_NatPow_L0.b α := ⟨_, rfl⟩
noncomputable def spec_NatPow_L0 {α : Type} : Nat → Nat → List Int → Int → Int → List Int → (Bool → List Int → Option α) → (List Int → Option α) → Option α := Classical.choose spec_NatPow_L0.ex α
theorem spec_NatPow_L0.eq : @spec_NatPow_L0 = @spec_NatPow_L0.b := funext fun α => congrFun (Classical.choose_spec spec_NatPow_L0.ex) α
theorem spec_NatPow_L0.zero {α : Type} (N : Nat) (v425 : List Int) (v426 : Int) (v427 : Int) (v428 : List Int) (k0 : Bool → List Int → Option α) (k1 : List Int → Option α) : spec_NatPow_L0 N 0 v425 v426 v427 v428 k0 k1 = none := by rw [spec_NatPow_L0.eq]; rfl
theorem spec_NatPow_L0.succ {α : Type} (N n : Nat) (v425 : List Int) (v426 : Int) (v427 : Int) (v428 : List Int) (k0 : Bool → List Int → Option α) (k1 : List Int → Option α) : spec_NatPow_L0 N (n + 1) v425 v426 v427 v428 k0 k1 = spec_NatPow_L0r N (fun y0 y1 y2 y3 => spec_NatPow_L0 N n y0 y1 y2 y3 k0 k1) k0 k1 v425 v426 v427 v428 := by rw [spec_NatPow_L0.eq]; rfl
/-- loop.example/pinfold/spec.NatPow -/
noncomputable def spec_NatPow.b {α : Type} (N : Nat) (a418 : List Int) (a419 : Int) (k0 : Bool → List Int → Option α) : Option α :=
  spec_NatOk N a418
    (fun x420 =>
      let x421 := !x420
      bif x421 then
        k0 false []
      else
        let x422 := (decide (a419 < (0 : Int)))
        bif x422 then
          k0 false []
        else
          let x423 := (decide ((64 : Int) < a419))
          bif x423 then
            k0 false []
          else
            let x424 := [(1 : Int)]
            spec_NatPow_L0 N N a418 a419 (0 : Int) x424
              (fun x434 x435 =>
                k0 x434 x435)
              (fun x436 =>
                k0 true x436))
theorem spec_NatPow.ex : ∃ f : ((α : Type) → Nat → List Int → Int → (Bool → List Int → Option α) → Option α), f = fun α => @spec_NatPow.b α := ⟨_, rfl⟩
noncomputable def spec_NatPow {α : Type} : Nat → List Int → Int → (Bool → List Int → Option α) → Option α := Classical.choose spec_NatPow.ex α
theorem spec_NatPow.eq : @spec_NatPow = @spec_NatPow.b := funext fun α => congrFun (Classical.choose_spec spec_NatPow.ex) α

/-- loop.example/pinfold/spec.FracPow -/
noncomputable def spec_FracPow.b {α : Type} (N : Nat) (a35 : Bool × (List Int) × (List Int) × Unit) (a36 : Int) (k0 : Bool → Bool → List Int → List Int → Option α) : Option α :=
  spec_FracOk N a35
    (fun x414 =>
      let x415 := !x414
      bif x415 then
        k0 false false [] []
      else
        let x416 := (decide (a36 < (0 : Int)))
        bif x416 then
          k0 false false [] []
        else
          let x417 := (decide ((64 : Int) < a36))
          bif x417 then
            k0 false false [] []
          else
            spec_NatPow N a35.2.1 a36
              (fun x437 x438 =>
                spec_NatPow N a35.2.2.1 a36
                  (fun x439 x440 =>
                    let x441 := !x437
                    bif x441 then
                      k0 false false [] []
                    else
                      let x442 := !x439
                      bif x442 then
                        k0 false false [] []
                      else
                        bif a35.1 then
                          let x443 := (Int.tmod a36 (2 : Int))
                          let x444 := (decide (x443 = (1 : Int)))
                          k0 x444 true x438 x440
                        else
                          k0 false true x438 x440)))
theorem spec_FracPow.ex : ∃ f : ((α : Type) → Nat → (Bool × (List Int) × (List Int) × Unit) → Int → (Bool → Bool → List Int → List Int → Option α) → Option α), f = fun α => @spec_FracPow.b α := ⟨_, rfl⟩
noncomputable def spec_FracPow {α : Type} : Nat → (Bool × (List Int) × (List Int) × Unit) → Int → (Bool → Bool → List Int → List Int → Option α) → Option α := Classical.choose spec_FracPow.ex α
theorem spec_FracPow.eq : @spec_FracPow = @spec_FracPow.b := funext fun α => congrFun (Classical.choose_spec spec_FracPow.ex) α

/-- loop.example/pinfold/impl.in -/
noncomputable def impl_in.b {α : Type} (N : Nat) (a480 : Int) (a481 : Int) (a482 : Int) (k0 : Bool → Option α) : Option α :=
  let x483 := decide (a481 ≤ a480)
  bif x483 then
    let x484 := decide (a480 ≤ a482)
    k0 x484
  else
    k0 false
theorem impl_in.ex : ∃ f : ((α : Type) → Nat → Int → Int → Int → (Bool → Option α) → Option α), f = fun α => @impl_in.b α := ⟨_, rfl⟩
noncomputable def impl_in {α : Type} : Nat → Int → Int → Int → (Bool → Option α) → Option α := Classical.choose impl_in.ex α
theorem impl_in.eq : @impl_in = @impl_in.b := funext fun α => congrFun (Classical.choose_spec impl_in.ex) α

/-- loop.example/pinfold/impl.NatOk$1 -/
noncomputable def impl_NatOk_1.b {α : Type} (N : Nat) (a479 : Int) (k0 : Bool → Option α) : Option α :=
  impl_in N a479 (0 : Int) (65535 : Int)
    (fun x485 =>
      let x486 := !x485
      k0 x486)
theorem impl_NatOk_1.ex : ∃ f : ((α : Type) → Nat → Int → (Bool → Option α) → Option α), f = fun α => @impl_NatOk_1.b α := ⟨_, rfl⟩
noncomputable def impl_NatOk_1 {α : Type} : Nat → Int → (Bool → Option α) → Option α := Classical.choose impl_NatOk_1.ex α
theorem impl_NatOk_1.eq : @impl_NatOk_1 = @impl_NatOk_1.b := funext fun α => congrFun (Classical.choose_spec impl_NatOk_1.ex) α

noncomputable def slices_IndexFunc_int_int__impl_NatOk_1_L0r {α : Type} (N : Nat) (next : List Int → Int → Int → Option α) (k0 : Int → Option α) (k1 : Option α) (v474 : List Int) (v475 : Int) (v476 : Int) : Option α :=
  let x477 := decide (v476 < v475)
  bif x477 then
    bif (decide (v476 < (0 : Int))) then
      none
    else
      match v474[v476.toNat]? with
      | some x478 =>
        impl_NatOk_1 N x478
          (fun x487 =>
            bif x487 then
              k0 v476
            else
              let x488 := (IntKind.i64.wrap (v476 + (1 : Int)))
              next v474 v475 x488)
      | none => none
  else
    k1
noncomputable def slices_IndexFunc_int_int__impl_NatOk_1_L0.b {α : Type} (N n : Nat) (v474 : List Int) (v475 : Int) (v476 : Int) (k0 : Int → Option α) (k1 : Option α) : Option α :=
  Nat.rec (motive := fun _ => List Int → Int → Int → Option α) (fun _ _ _ => none) (fun _ next => slices_IndexFunc_int_int__impl_NatOk_1_L0r N next k0 k1) n v474 v475 v476
theorem slices_IndexFunc_int_int__impl_NatOk_1_L0.ex : ∃ f : ((α : Type) → Nat → Nat → List Int → Int → Int → (Int → Option α) → (Option α) → Option α), f = fun α => @slices_IndexFunc_int_int__impl_NatOk_1_L0.b α := ⟨_, rfl⟩
noncomputable def slices_IndexFunc_int_int__impl_NatOk_1_L0 {α : Type} : Nat → Nat → List Int → Int → Int → (Int → Option α) → (Option α) → Option α := Classical.choose slices_IndexFunc_int_int__impl_NatOk_1_L0.ex α
theorem slices_IndexFunc_int_int__impl_NatOk_1_L0.eq : @slices_IndexFunc_int_int__impl_NatOk_1_L0 = @slices_IndexFunc_int_int__impl_NatOk_1_L0.b := funext fun α => congrFun (Classical.choose_spec slices_IndexFunc_int_int__impl_NatOk_1_L0.ex) α
theorem slices_IndexFunc_int_int__impl_NatOk_1_L0.zero {α : Type} (N : Nat) (v474 : List Int) (v475 : Int) (v476 : Int) (k0 : Int → Option α) (k1 : Option α) : slices_IndexFunc_int_int__impl_NatOk_1_L0 N 0 v474 v475 v476 k0 k1 = none := by rw [slices_IndexFunc_int_int__impl_NatOk_1_L0.eq]; rfl
theorem slices_IndexFunc_int_int__impl_NatOk_1_L0.succ {α : Type} (N n : Nat) (v474 : List Int) (v475 : Int) (v476 : Int) (k0 : Int → Option α) (k1 : Option α) : slices_IndexFunc_int_int__impl_NatOk_1_L0 N (n + 1) v474 v475 v476 k0 k1 = slices_IndexFunc_int_int__impl_NatOk_1_L0r N (fun y0 y1 y2 => slices_IndexFunc_int_int__impl_NatOk_1_L0 N n y0 y1 y2 k0 k1) k0 k1 v474 v475 v476 := by rw [slices_IndexFunc_int_int__impl_NatOk_1_L0.eq]; rfl
/-- slices.IndexFunc[[]int,int] -/
noncomputable def slices_IndexFunc_int_int__impl_NatOk_1.b {α : Type} (N : Nat) (a472 : List Int) (k0 : Int → Option α) : Option α :=
  let x473 := ((a472.length : Nat) : Int)
  slices_IndexFunc_int_int__impl_NatOk_1_L0 N N a472 x473 (0 : Int)
    (fun x489 =>
      k0 x489)
    (
      k0 (-1 : Int))
theorem slices_IndexFunc_int_int__impl_NatOk_1.ex : ∃ f : ((α : Type) → Nat → List Int → (Int → Option α) → Option α), f = fun α => @slices_IndexFunc_int_int__impl_NatOk_1.b α := ⟨_, rfl⟩
noncomputable def slices_IndexFunc_int_int__impl_NatOk_1 {α : Type} : Nat → List Int → (Int → Option α) → Option α := Classical.choose slices_IndexFunc_int_int__impl_NatOk_1.ex α
theorem slices_IndexFunc_int_int__impl_NatOk_1.eq : @slices_IndexFunc_int_int__impl_NatOk_1 = @slices_IndexFunc_int_int__impl_NatOk_1.b := funext fun α => congrFun (Classical.choose_spec slices_IndexFunc_int_int__impl_NatOk_1.ex) α

/-- slices.ContainsFunc[[]int,int] -/
noncomputable def slices_ContainsFunc_int_int__impl_NatOk_1.b {α : Type} (N : Nat) (a471 : List Int) (k0 : Bool → Option α) : Option α :=
  slices_IndexFunc_int_int__impl_NatOk_1 N a471
    (fun x490 =>
      let x491 := (decide ((0 : Int) ≤ x490))
      k0 x491)
theorem slices_ContainsFunc_int_int__impl_NatOk_1.ex : ∃ f : ((α : Type) → Nat → List Int → (Bool → Option α) → Option α), f = fun α => @slices_ContainsFunc_int_int__impl_NatOk_1.b α := ⟨_, rfl⟩
noncomputable def slices_ContainsFunc_int_int__impl_NatOk_1 {α : Type} : Nat → List Int → (Bool → Option α) → Option α := Classical.choose slices_ContainsFunc_int_int__impl_NatOk_1.ex α
theorem slices_ContainsFunc_int_int__impl_NatOk_1.eq : @slices_ContainsFunc_int_int__impl_NatOk_1 = @slices_ContainsFunc_int_int__impl_NatOk_1.b := funext fun α => congrFun (Classical.choose_spec slices_ContainsFunc_int_int__impl_NatOk_1.ex) α

/-- loop.example/pinfold/impl.NatOk -/
noncomputable def impl_NatOk.b {α : Type} (N : Nat) (a466 : List Int) (k0 : Bool → Option α) : Option α :=
  let x467 := ((a466.length : Nat) : Int)
  let x468 := (decide (x467 ≤ (256 : Int)))
  bif x468 then
    let x469 := ((a466.length : Nat) : Int)
    let x470 := (decide (x469 = (0 : Int)))
    bif x470 then
      slices_ContainsFunc_int_int__impl_NatOk_1 N a466
        (fun x492 =>
          let x493 := !x492
          k0 x493)
    else
      let x494 := ((a466.length : Nat) : Int)
      let x495 := (IntKind.i64.wrap (x494 - (1 : Int)))
      bif (decide (x495 < (0 : Int))) then
        none
      else
        match a466[x495.toNat]? with
        | some x496 =>
          let x497 := (!(decide (x496 = (0 : Int))))
          bif x497 then
            slices_ContainsFunc_int_int__impl_NatOk_1 N a466
              (fun x498 =>
                let x499 := !x498
                k0 x499)
          else
            k0 false
        | none => none
  else
    k0 false
theorem impl_NatOk.ex : ∃ f : ((α : Type) → Nat → List Int → (Bool → Option α) → Option α), f = fun α => @impl_NatOk.b α := ⟨_, rfl⟩
noncomputable def impl_NatOk {α : Type} : Nat → List Int → (Bool → Option α) → Option α := Classical.choose impl_NatOk.ex α
theorem impl_NatOk.eq : @impl_NatOk = @impl_NatOk.b := funext fun α => congrFun (Classical.choose_spec impl_NatOk.ex) α

/-- loop.example/pinfold/impl.nats$1 -/
noncomputable def impl_nats_1.b {α : Type} (N : Nat) (a465 : List Int) (k0 : Bool → Option α) : Option α :=
  impl_NatOk N a465
    (fun x500 =>
      let x501 := !x500
      k0 x501)
theorem impl_nats_1.ex : ∃ f : ((α : Type) → Nat → List Int → (Bool → Option α) → Option α), f = fun α => @impl_nats_1.b α := ⟨_, rfl⟩
noncomputable def impl_nats_1 {α : Type} : Nat → List Int → (Bool → Option α) → Option α := Classical.choose impl_nats_1.ex α
theorem impl_nats_1.eq : @impl_nats_1 = @impl_nats_1.b := funext fun α => congrFun (Classical.choose_spec impl_nats_1.ex) α

noncomputable def slices_IndexFunc_int_int__impl_nats_1_L0r {α : Type} (N : Nat) (next : List (List Int) → Int → Int → Option α) (k0 : Int → Option α) (k1 : Option α) (v460 : List (List Int)) (v461 : Int) (v462 : Int) : Option α :=
  let x463 := decide (v462 < v461)
  bif x463 then
    bif (decide (v462 < (0 : Int))) then
      none
    else
      match v460[v462.toNat]? with
      | some x464 =>
        impl_nats_1 N x464
          (fun x502 =>
            bif x502 then
              k0 v462
            else
              let x503 := (IntKind.i64.wrap (v462 + (1 : Int)))
              next v460 v461 x503)
      | none => none
  else
    k1
noncomputable def slices_IndexFunc_int_int__impl_nats_1_L0.b {α : Type} (N n : Nat) (v460 : List (List Int)) (v461 : Int) (v462 : Int) (k0 : Int → Option α) (k1 : Option α) : Option α :=
  Nat.rec (motive := fun _ => List (List Int) → Int → Int → Option α) (fun _ _ _ => none) (fun _ next => slices_IndexFunc_int_int__impl_nats_1_L0r N next k0 k1) n v460 v461 v462
theorem slices_IndexFunc_int_int__impl_nats_1_L0.ex : ∃ f : ((α : Type) → Nat → Nat → List (List Int) → Int → Int → (Int → Option α) → (Option α) → Option α), f = fun α => @slices_IndexFunc_int_int__impl_nats_1_L0.b α := ⟨_, rfl⟩
noncomputable def slices_IndexFunc_int_int__impl_nats_1_L0 {α : Type} : Nat → Nat → List (List Int) → Int → Int → (Int → Option α) → (Option α) → Option α := Classical.choose slices_IndexFunc_int_int__impl_nats_1_L0.ex α
theorem slices_IndexFunc_int_int__impl_nats_1_L0.eq : @slices_IndexFunc_int_int__impl_nats_1_L0 = @slices_IndexFunc_int_int__impl_nats_1_L0.b := funext fun α => congrFun (Classical.choose_spec slices_IndexFunc_int_int__impl_nats_1_L0.ex) α
theorem slices_IndexFunc_int_int__impl_nats_1_L0.zero {α : Type} (N : Nat) (v460 : List (List Int)) (v461 : Int) (v462 : Int) (k0 : Int → Option α) (k1 : Option α) : slices_IndexFunc_int_int__impl_nats_1_L0 N 0 v460 v461 v462 k0 k1 = none := by rw [slices_IndexFunc_int_int__impl_nats_1_L0.eq]; rfl
theorem slices_IndexFunc_int_int__impl_nats_1_L0.succ {α : Type} (N n : Nat) (v460 : List (List Int)) (v461 : Int) (v462 : Int) (k0 : Int → Option α) (k1 : Option α) : slices_IndexFunc_int_int__impl_nats_1_L0 N (n + 1) v460 v461 v462 k0 k1 = slices_IndexFunc_int_int__impl_nats_1_L0r N (fun y0 y1 y2 => slices_IndexFunc_int_int__impl_nats_1_L0 N n y0 y1 y2 k0 k1) k0 k1 v460 v461 v462 := by rw [slices_IndexFunc_int_int__impl_nats_1_L0.eq]; rfl
/-- slices.IndexFunc[[][]int,[]int] -/
noncomputable def slices_IndexFunc_int_int__impl_nats_1.b {α : Type} (N : Nat) (a458 : List (List Int)) (k0 : Int → Option α) : Option α :=
  let x459 := ((a458.length : Nat) : Int)
  slices_IndexFunc_int_int__impl_nats_1_L0 N N a458 x459 (0 : Int)
    (fun x504 =>
      k0 x504)
    (
      k0 (-1 : Int))
theorem slices_IndexFunc_int_int__impl_nats_1.ex : ∃ f : ((α : Type) → Nat → List (List Int) → (Int → Option α) → Option α), f = fun α => @slices_IndexFunc_int_int__impl_nats_1.b α := ⟨_, rfl⟩
noncomputable def slices_IndexFunc_int_int__impl_nats_1 {α : Type} : Nat → List (List Int) → (Int → Option α) → Option α := Classical.choose slices_IndexFunc_int_int__impl_nats_1.ex α
theorem slices_IndexFunc_int_int__impl_nats_1.eq : @slices_IndexFunc_int_int__impl_nats_1 = @slices_IndexFunc_int_int__impl_nats_1.b := funext fun α => congrFun (Classical.choose_spec slices_IndexFunc_int_int__impl_nats_1.ex) α

/-- slices.ContainsFunc[[][]int,[]int] -/
noncomputable def slices_ContainsFunc_int_int__impl_nats_1.b {α : Type} (N : Nat) (a457 : List (List Int)) (k0 : Bool → Option α) : Option α :=
  slices_IndexFunc_int_int__impl_nats_1 N a457
    (fun x505 =>
      let x506 := (decide ((0 : Int) ≤ x505))
      k0 x506)
theorem slices_ContainsFunc_int_int__impl_nats_1.ex : ∃ f : ((α : Type) → Nat → List (List Int) → (Bool → Option α) → Option α), f = fun α => @slices_ContainsFunc_int_int__impl_nats_1.b α := ⟨_, rfl⟩
noncomputable def slices_ContainsFunc_int_int__impl_nats_1 {α : Type} : Nat → List (List Int) → (Bool → Option α) → Option α := Classical.choose slices_ContainsFunc_int_int__impl_nats_1.ex α
theorem slices_ContainsFunc_int_int__impl_nats_1.eq : @slices_ContainsFunc_int_int__impl_nats_1 = @slices_ContainsFunc_int_int__impl_nats_1.b := funext fun α => congrFun (Classical.choose_spec slices_ContainsFunc_int_int__impl_nats_1.ex) α

/-- loop.example/pinfold/impl.nats -/
noncomputable def impl_nats.b {α : Type} (N : Nat) (a456 : List (List Int)) (k0 : Bool → Option α) : Option α :=
  slices_ContainsFunc_int_int__impl_nats_1 N a456
    (fun x507 =>
      let x508 := !x507
      k0 x508)
theorem impl_nats.ex : ∃ f : ((α : Type) → Nat → List (List Int) → (Bool → Option α) → Option α), f = fun α => @impl_nats.b α := ⟨_, rfl⟩
noncomputable def impl_nats {α : Type} : Nat → List (List Int) → (Bool → Option α) → Option α := Classical.choose impl_nats.ex α
theorem impl_nats.eq : @impl_nats = @impl_nats.b := funext fun α => congrFun (Classical.choose_spec impl_nats.ex) α

noncomputable def impl_natCmp_L0r {α : Type} (N : Nat) (next : List Int → List Int → Int → Option α) (k0 : Int → Option α) (k1 : Option α) (v603 : List Int) (v604 : List Int) (v605 : Int) : Option α :=
  let x606 := (decide ((0 : Int) ≤ v605))
  bif x606 then
    bif (decide (v605 < (0 : Int))) then
      none
    else
      match v603[v605.toNat]? with
      | some x607 =>
        bif (decide (v605 < (0 : Int))) then
          none
        else
          match v604[v605.toNat]? with
          | some x608 =>
            let x609 := !(decide (x607 = x608))
            bif x609 then
              bif (decide (v605 < (0 : Int))) then
                none
              else
                match v603[v605.toNat]? with
                | some x610 =>
                  bif (decide (v605 < (0 : Int))) then
                    none
                  else
                    match v604[v605.toNat]? with
                    | some x611 =>
                      let x612 := IntKind.i64.wrap (x610 - x611)
                      let x613 := (minI (1 : Int) x612)
                      let x614 := (maxI (-1 : Int) x613)
                      k0 x614
                    | none => none
                | none => none
            else
              let x615 := (IntKind.i64.wrap (v605 - (1 : Int)))
              next v603 v604 x615
          | none => none
      | none => none
  else
    k1
noncomputable def impl_natCmp_L0.b {α : Type} (N n : Nat) (v603 : List Int) (v604 : List Int) (v605 : Int) (k0 : Int → Option α) (k1 : Option α) : Option α :=
  Nat.rec (motive := fun _ => List Int → List Int → Int → Option α) (fun _ _ _ => none) (fun _ next => impl_natCmp_L0r N next k0 k1) n v603 v604 v605
theorem impl_natCmp_L0.ex : ∃ f : ((α : Type) → Nat → Nat → List Int → List Int → Int → (Int → Option α) → (Option α) → Option α), f = fun α => @impl_natCmp_L0.b α := ⟨_, rfl⟩
noncomputable def impl_natCmp_L0 {α : Type} : Nat → Nat → List Int → List Int → Int → (Int → Option α) → (Option α) → Option α := Classical.choose impl_natCmp_L0.ex α
theorem impl_natCmp_L0.eq : @impl_natCmp_L0 = @impl_natCmp_L0.b := funext fun α => congrFun (Classical.choose_spec impl_natCmp_L0.ex) α
theorem impl_natCmp_L0.zero {α : Type} (N : Nat) (v603 : List Int) (v604 : List Int) (v605 : Int) (k0 : Int → Option α) (k1 : Option α) : impl_natCmp_L0 N 0 v603 v604 v605 k0 k1 = none := by rw [impl_natCmp_L0.eq]; rfl
theorem impl_natCmp_L0.succ {α : Type} (N n : Nat) (v603 : List Int) (v604 : List Int) (v605 : Int) (k0 : Int → Option α) (k1 : Option α) : impl_natCmp_L0 N (n + 1) v603 v604 v605 k0 k1 = impl_natCmp_L0r N (fun y0 y1 y2 => impl_natCmp_L0 N n y0 y1 y2 k0 k1) k0 k1 v603 v604 v605 := by rw [impl_natCmp_L0.eq]; rfl
/-- loop.example/pinfold/impl.natCmp -/
noncomputable def impl_natCmp.b {α : Type} (N : Nat) (a591 : List Int) (a592 : List Int) (k0 : Int → Option α) : Option α :=
  let x593 := ((a591.length : Nat) : Int)
  let x594 := ((a592.length : Nat) : Int)
  let x595 := !(decide (x593 = x594))
  bif x595 then
    let x596 := ((a591.length : Nat) : Int)
    let x597 := ((a592.length : Nat) : Int)
    let x598 := IntKind.i64.wrap (x596 - x597)
    let x599 := (minI (1 : Int) x598)
    let x600 := (maxI (-1 : Int) x599)
    k0 x600
  else
    let x601 := ((a591.length : Nat) : Int)
    let x602 := (IntKind.i64.wrap (x601 - (1 : Int)))
    impl_natCmp_L0 N N a591 a592 x602
      (fun x616 =>
        k0 x616)
      (
        k0 (0 : Int))
theorem impl_natCmp.ex : ∃ f : ((α : Type) → Nat → List Int → List Int → (Int → Option α) → Option α), f = fun α => @impl_natCmp.b α := ⟨_, rfl⟩
noncomputable def impl_natCmp {α : Type} : Nat → List Int → List Int → (Int → Option α) → Option α := Classical.choose impl_natCmp.ex α
theorem impl_natCmp.eq : @impl_natCmp = @impl_natCmp.b := funext fun α => congrFun (Classical.choose_spec impl_natCmp.ex) α

noncomputable def impl_trim_L0r {α : Type} (N : Nat) (next : List Int → Option α) (k0 : List Int → Option α) (v644 : List Int) : Option α :=
  let x645 := ((v644.length : Nat) : Int)
  let x646 := (decide ((0 : Int) < x645))
  bif x646 then
    let x647 := ((v644.length : Nat) : Int)
    let x648 := (IntKind.i64.wrap (x647 - (1 : Int)))
    bif (decide (x648 < (0 : Int))) then
      none
    else
      match v644[x648.toNat]? with
      | some x649 =>
        let x650 := (decide (x649 = (0 : Int)))
        bif x650 then
          let x651 := ((v644.length : Nat) : Int)
          let x652 := (IntKind.i64.wrap (x651 - (1 : Int)))
          bif (decide ((0 : Int) ≤ x652)) then
            bif (decide (x652 ≤ ((v644.length : Nat) : Int))) then
              let x653 := v644.take x652.toNat
              next x653
            else
              none
          else
            none
        else
          k0 v644
      | none => none
  else
    k0 v644
noncomputable def impl_trim_L0.b {α : Type} (N n : Nat) (v644 : List Int) (k0 : List Int → Option α) : Option α :=
  Nat.rec (motive := fun _ => List Int → Option α) (fun _ => none) (fun _ next => impl_trim_L0r N next k0) n v644
theorem impl_trim_L0.ex : ∃ f : ((α : Type) → Nat → Nat → List Int → (List Int → Option α) → Option α), f = fun α => @impl_trim_L0.b α := ⟨_, rfl⟩
noncomputable def impl_trim_L0 {α : Type} : Nat → Nat → List Int → (List Int → Option α) → Option α := Classical.choose impl_trim_L0.ex α
theorem impl_trim_L0.eq : @impl_trim_L0 = @impl_trim_L0.b := funext fun α => congrFun (Classical.choose_spec impl_trim_L0.ex) α
theorem impl_trim_L0.zero {α : Type} (N : Nat) (v644 : List Int) (k0 : List Int → Option α) : impl_trim_L0 N 0 v644 k0 = none := by rw [impl_trim_L0.eq]; rfl
theorem impl_trim_L0.succ {α : Type} (N n : Nat) (v644 : List Int) (k0 : List Int → Option α) : impl_trim_L0 N (n + 1) v644 k0 = impl_trim_L0r N (fun y0 => impl_trim_L0 N n y0 k0) k0 v644 := by rw [impl_trim_L0.eq]; rfl
/-- loop.example/pinfold/impl.trim -/
noncomputable def impl_trim.b {α : Type} (N : Nat) (a643 : List Int) (k0 : List Int → Option α) : Option α :=
  impl_trim_L0 N N a643
    (fun x654 =>
      k0 x654)
theorem impl_trim.ex : ∃ f : ((α : Type) → Nat → List Int → (List Int → Option α) → Option α), f = fun α => @impl_trim.b α := ⟨_, rfl⟩
noncomputable def impl_trim {α : Type} : Nat → List Int → (List Int → Option α) → Option α := Classical.choose impl_trim.ex α
theorem impl_trim.eq : @impl_trim = @impl_trim.b := funext fun α => congrFun (Classical.choose_spec impl_trim.ex) α

noncomputable def math_bits_Len64_J1.b {α : Type} (N : Nat) (v664 : Int) (v665 : Int) (k0 : Int → Int → Option α) : Option α :=
  let x666 := (decide ((4294967296 : Int) ≤ v664))
  bif x666 then
    let x667 := (shrI .u64 v664 (32 : Int))
    k0 x667 (32 : Int)
  else
    k0 v664 v665
theorem math_bits_Len64_J1.ex : ∃ f : ((α : Type) → Nat → Int → Int → (Int → Int → Option α) → Option α), f = fun α => @math_bits_Len64_J1.b α := ⟨_, rfl⟩
noncomputable def math_bits_Len64_J1 {α : Type} : Nat → Int → Int → (Int → Int → Option α) → Option α := Classical.choose math_bits_Len64_J1.ex α
theorem math_bits_Len64_J1.eq : @math_bits_Len64_J1 = @math_bits_Len64_J1.b := funext fun α => congrFun (Classical.choose_spec math_bits_Len64_J1.ex) α
noncomputable def math_bits_Len64_J4.b {α : Type} (N : Nat) (v670 : Int) (v671 : Int) (k0 : Int → Int → Option α) : Option α :=
  let x672 := (decide ((65536 : Int) ≤ v670))
  bif x672 then
    let x673 := (shrI .u64 v670 (16 : Int))
    let x674 := (IntKind.i64.wrap (v671 + (16 : Int)))
    k0 x673 x674
  else
    k0 v670 v671
theorem math_bits_Len64_J4.ex : ∃ f : ((α : Type) → Nat → Int → Int → (Int → Int → Option α) → Option α), f = fun α => @math_bits_Len64_J4.b α := ⟨_, rfl⟩
noncomputable def math_bits_Len64_J4 {α : Type} : Nat → Int → Int → (Int → Int → Option α) → Option α := Classical.choose math_bits_Len64_J4.ex α
theorem math_bits_Len64_J4.eq : @math_bits_Len64_J4 = @math_bits_Len64_J4.b := funext fun α => congrFun (Classical.choose_spec math_bits_Len64_J4.ex) α
noncomputable def math_bits_Len64_J7.b {α : Type} (N : Nat) (v677 : Int) (v678 : Int) (k0 : Int → Int → Option α) : Option α :=
  let x679 := (decide ((256 : Int) ≤ v677))
  bif x679 then
    let x680 := (shrI .u64 v677 (8 : Int))
    let x681 := (IntKind.i64.wrap (v678 + (8 : Int)))
    k0 x680 x681
  else
    k0 v677 v678
theorem math_bits_Len64_J7.ex : ∃ f : ((α : Type) → Nat → Int → Int → (Int → Int → Option α) → Option α), f = fun α => @math_bits_Len64_J7.b α := ⟨_, rfl⟩
noncomputable def math_bits_Len64_J7 {α : Type} : Nat → Int → Int → (Int → Int → Option α) → Option α := Classical.choose math_bits_Len64_J7.ex α
theorem math_bits_Len64_J7.eq : @math_bits_Len64_J7 = @math_bits_Len64_J7.b := funext fun α => congrFun (Classical.choose_spec math_bits_Len64_J7.ex) α
/-- math/bits.Len64 -/
noncomputable def math_bits_Len64.b {α : Type} (N : Nat) (a663 : Int) (k0 : Int → Option α) : Option α :=
  math_bits_Len64_J1 N a663 (0 : Int)
    (fun x668 x669 =>
      math_bits_Len64_J4 N x668 x669
        (fun x675 x676 =>
          math_bits_Len64_J7 N x675 x676
            (fun x682 x683 =>
              let x684 := IntKind.u8.wrap x682
              bif (decide (x684 < (0 : Int))) then
                none
              else
                match ((⟨#[0, 1, 2, 2, 3, 3, 3, 3, 4, 4, 4, 4, 4, 4, 4, 4, 5, 5, 5, 5, 5, 5, 5, 5, 5, 5, 5, 5, 5, 5, 5, 5, 6, 6, 6, 6, 6, 6, 6, 6, 6, 6, 6, 6, 6, 6, 6, 6, 6, 6, 6, 6, 6, 6, 6, 6, 6, 6, 6, 6, 6, 6, 6, 6, 7, 7, 7, 7, 7, 7, 7, 7, 7, 7, 7, 7, 7, 7, 7, 7, 7, 7, 7, 7, 7, 7, 7, 7, 7, 7, 7, 7, 7, 7, 7, 7, 7, 7, 7, 7, 7, 7, 7, 7, 7, 7, 7, 7, 7, 7, 7, 7, 7, 7, 7, 7, 7, 7, 7, 7, 7, 7, 7, 7, 7, 7, 7, 7, 8, 8, 8, 8, 8, 8, 8, 8, 8, 8, 8, 8, 8, 8, 8, 8, 8, 8, 8, 8, 8, 8, 8, 8, 8, 8, 8, 8, 8, 8, 8, 8, 8, 8, 8, 8, 8, 8, 8, 8, 8, 8, 8, 8, 8, 8, 8, 8, 8, 8, 8, 8, 8, 8, 8, 8, 8, 8, 8, 8, 8, 8, 8, 8, 8, 8, 8, 8, 8, 8, 8, 8, 8, 8, 8, 8, 8, 8, 8, 8, 8, 8, 8, 8, 8, 8, 8, 8, 8, 8, 8, 8, 8, 8, 8, 8, 8, 8, 8, 8, 8, 8, 8, 8, 8, 8, 8, 8, 8, 8, 8, 8, 8, 8, 8, 8, 8, 8, 8, 8, 8, 8, 8, 8, 8, 8, 8, 8]⟩ : ByteArray)[x684.toNat]? : Option UInt8) with
                | some x685 =>
                  let x686 := ((x685.toNat : Nat) : Int)
                  let x687 := IntKind.i64.wrap x686
                  let x688 := IntKind.i64.wrap (x683 + x687)
                  k0 x688
                | none => none)))
theorem math_bits_Len64.ex : ∃ f : ((α : Type) → Nat → Int → (Int → Option α) → Option α), f = fun α => @math_bits_Len64.b α := ⟨_, rfl⟩
noncomputable def math_bits_Len64 {α : Type} : Nat → Int → (Int → Option α) → Option α := Classical.choose math_bits_Len64.ex α
theorem math_bits_Len64.eq : @math_bits_Len64 = @math_bits_Len64.b := funext fun α => congrFun (Classical.choose_spec math_bits_Len64.ex) α

/-- math/bits.Len -/
noncomputable def math_bits_Len.b {α : Type} (N : Nat) (a662 : Int) (k0 : Int → Option α) : Option α :=
  math_bits_Len64 N a662
    (fun x689 =>
      k0 x689)
theorem math_bits_Len.ex : ∃ f : ((α : Type) → Nat → Int → (Int → Option α) → Option α), f = fun α => @math_bits_Len.b α := ⟨_, rfl⟩
noncomputable def math_bits_Len {α : Type} : Nat → Int → (Int → Option α) → Option α := Classical.choose math_bits_Len.ex α
theorem math_bits_Len.eq : @math_bits_Len = @math_bits_Len.b := funext fun α => congrFun (Classical.choose_spec math_bits_Len.ex) α

/-- slices.Clone[[]int,int] -/
noncomputable def slices_Clone_int_int {α : Type} (N : Nat) (a1 : List Int) (k0 : List Int → Option α) : Option α :=
  bif decide (([] : List Int).length + a1.length ≤ 8796093022208) then k0 a1 else none

noncomputable def impl_natShift_J10.b {α : Type} (N : Nat) (v768 : List Int) (v769 : Int) (v770 : Int) (v771 : Int) (v772 : Int) (v773 : Int) (v774 : List Int) (k0 : List Int → Int → Int → Int → Int → List Int → Option α) : Option α :=
  let x775 := IntKind.i64.wrap (v769 + v771)
  let x776 := (IntKind.i64.wrap (x775 + (1 : Int)))
  let x777 := ((v768.length : Nat) : Int)
  let x778 := decide (x776 < x777)
  bif x778 then
    bif (decide (v771 < (0 : Int))) then
      none
    else
      bif decide (v771.toNat < v774.length) then
        match v774[v771.toNat]? with
        | some x779 =>
          let x780 := IntKind.i64.wrap (v769 + v771)
          let x781 := (IntKind.i64.wrap (x780 + (1 : Int)))
          bif (decide (x781 < (0 : Int))) then
            none
          else
            match v768[x781.toNat]? with
            | some x782 =>
              let x783 := (IntKind.i64.wrap ((16 : Int) - v770))
              bif (decide (x783 < (0 : Int))) then
                none
              else
                let x784 := shlI .i64 x782 x783
                let x785 := (bitI .and .i64 x784 (65535 : Int))
                let x786 := bitI .or .i64 x779 x785
                bif (decide (v771 < (0 : Int))) then
                  none
                else
                  bif decide (v771.toNat < v774.length) then
                    match v774[v771.toNat]? with
                    | some x787 =>
                      let x788 := v774.set v771.toNat x786
                      k0 v768 v769 v770 v772 v773 x788
                    | none => none
                  else
                    none
            | none => none
        | none => none
      else
        none
  else
    k0 v768 v769 v770 v772 v773 v774
theorem impl_natShift_J10.ex : ∃ f : ((α : Type) → Nat → List Int → Int → Int → Int → Int → Int → List Int → (List Int → Int → Int → Int → Int → List Int → Option α) → Option α), f = fun α => @impl_natShift_J10.b α := ⟨_, rfl⟩
noncomputable def impl_natShift_J10 {α : Type} : Nat → List Int → Int → Int → Int → Int → Int → List Int → (List Int → Int → Int → Int → Int → List Int → Option α) → Option α := Classical.choose impl_natShift_J10.ex α
theorem impl_natShift_J10.eq : @impl_natShift_J10 = @impl_natShift_J10.b := funext fun α => congrFun (Classical.choose_spec impl_natShift_J10.ex) α
noncomputable def impl_natShift_L0r {α : Type} (N : Nat) (next : List Int → Int → Int → Int → Int → List Int → Option α) (k0 : List Int → Option α) (v757 : List Int) (v758 : Int) (v759 : Int) (v760 : Int) (v761 : Int) (v762 : List Int) : Option α :=
  let x763 := decide (v761 < v760)
  bif x763 then
    bif (decide (v761 < (0 : Int))) then
      none
    else
      bif decide (v761.toNat < v762.length) then
        match v762[v761.toNat]? with
        | some x764 =>
          bif (decide (v759 < (0 : Int))) then
            none
          else
            let x765 := shrI .i64 x764 v759
            bif (decide (v761 < (0 : Int))) then
              none
            else
              bif decide (v761.toNat < v762.length) then
                match v762[v761.toNat]? with
                | some x766 =>
                  let x767 := v762.set v761.toNat x765
                  impl_natShift_J10 N v757 v758 v759 v761 v760 v761 x767
                    (fun x789 x790 x791 x792 x793 x794 =>
                      let x795 := (IntKind.i64.wrap (x793 + (1 : Int)))
                      next x789 x790 x791 x792 x795 x794)
                | none => none
              else
                none
        | none => none
      else
        none
  else
    k0 v762
noncomputable def impl_natShift_L0.b {α : Type} (N n : Nat) (v757 : List Int) (v758 : Int) (v759 : Int) (v760 : Int) (v761 : Int) (v762 : List Int) (k0 : List Int → Option α) : Option α :=
  Nat.rec (motive := fun _ => List Int → Int → Int → Int → Int → List Int → Option α) (fun _ _ _ _ _ _ => none) (fun _ next => impl_natShift_L0r N next k0) n v757 v758 v759 v760 v761 v762
theorem impl_natShift_L0.ex : ∃ f : ((α : Type) → Nat → Nat → List Int → Int → Int → Int → Int → List Int → (List Int → Option α) → Option α), f = fun α => @impl_natShift_L0.b α := ⟨_, rfl⟩
noncomputable def impl_natShift_L0 {α : Type} : Nat → Nat → List Int → Int → Int → Int → Int → List Int → (List Int → Option α) → Option α := Classical.choose impl_natShift_L0.ex α
theorem impl_natShift_L0.eq : @impl_natShift_L0 = @impl_natShift_L0.b := funext fun α => congrFun (Classical.choose_spec impl_natShift_L0.ex) α
theorem impl_natShift_L0.zero {α : Type} (N : Nat) (v757 : List Int) (v758 : Int) (v759 : Int) (v760 : Int) (v761 : Int) (v762 : List Int) (k0 : List Int → Option α) : impl_natShift_L0 N 0 v757 v758 v759 v760 v761 v762 k0 = none := by rw [impl_natShift_L0.eq]; rfl
theorem impl_natShift_L0.succ {α : Type} (N n : Nat) (v757 : List Int) (v758 : Int) (v759 : Int) (v760 : Int) (v761 : Int) (v762 : List Int) (k0 : List Int → Option α) : impl_natShift_L0 N (n + 1) v757 v758 v759 v760 v761 v762 k0 = impl_natShift_L0r N (fun y0 y1 y2 y3 y4 y5 => impl_natShift_L0 N n y0 y1 y2 y3 y4 y5 k0) k0 v757 v758 v759 v760 v761 v762 := by rw [impl_natShift_L0.eq]; rfl
noncomputable def impl_natShift_L2r {α : Type} (N : Nat) (next : Int → List Int → Int → Int → List Int → Option α) (k0 : List Int → Option α) (v804 : Int) (v805 : List Int) (v806 : Int) (v807 : Int) (v808 : List Int) : Option α :=
  let x809 := decide (v807 < v806)
  bif x809 then
    bif (decide (v807 < (0 : Int))) then
      none
    else
      match v805[v807.toNat]? with
      | some x810 =>
        let x811 := (Int.tmod v804 (16 : Int))
        bif (decide (x811 < (0 : Int))) then
          none
        else
          let x812 := shlI .i64 x810 x811
          let x813 := (IntKind.i64.wrap (Int.tdiv v804 (16 : Int)))
          let x814 := IntKind.i64.wrap (x813 + v807)
          bif (decide (x814 < (0 : Int))) then
            none
          else
            bif decide (x814.toNat < v808.length) then
              match v808[x814.toNat]? with
              | some x815 =>
                let x816 := (bitI .and .i64 x812 (65535 : Int))
                let x817 := bitI .or .i64 x815 x816
                bif (decide (x814 < (0 : Int))) then
                  none
                else
                  bif decide (x814.toNat < v808.length) then
                    match v808[x814.toNat]? with
                    | some x818 =>
                      let x819 := v808.set x814.toNat x817
                      let x820 := (IntKind.i64.wrap (Int.tdiv v804 (16 : Int)))
                      let x821 := IntKind.i64.wrap (x820 + v807)
                      let x822 := (IntKind.i64.wrap (x821 + (1 : Int)))
                      let x823 := (shrI .i64 x812 (16 : Int))
                      bif (decide (x822 < (0 : Int))) then
                        none
                      else
                        bif decide (x822.toNat < x819.length) then
                          match x819[x822.toNat]? with
                          | some x824 =>
                            let x825 := x819.set x822.toNat x823
                            let x826 := (IntKind.i64.wrap (v807 + (1 : Int)))
                            next v804 v805 v806 x826 x825
                          | none => none
                        else
                          none
                    | none => none
                  else
                    none
              | none => none
            else
              none
      | none => none
  else
    k0 v808
noncomputable def impl_natShift_L2.b {α : Type} (N n : Nat) (v804 : Int) (v805 : List Int) (v806 : Int) (v807 : Int) (v808 : List Int) (k0 : List Int → Option α) : Option α :=
  Nat.rec (motive := fun _ => Int → List Int → Int → Int → List Int → Option α) (fun _ _ _ _ _ => none) (fun _ next => impl_natShift_L2r N next k0) n v804 v805 v806 v807 v808
theorem impl_natShift_L2.ex : ∃ f : ((α : Type) → Nat → Nat → Int → List Int → Int → Int → List Int → (List Int → Option α) → Option α), f = fun α => @impl_natShift_L2.b α := ⟨_, rfl⟩
noncomputable def impl_natShift_L2 {α : Type} : Nat → Nat → Int → List Int → Int → Int → List Int → (List Int → Option α) → Option α := Classical.choose impl_natShift_L2.ex α
theorem impl_natShift_L2.eq : @impl_natShift_L2 = @impl_natShift_L2.b := funext fun α => congrFun (Classical.choose_spec impl_natShift_L2.ex) α
theorem impl_natShift_L2.zero {α : Type} (N : Nat) (v804 : Int) (v805 : List Int) (v806 : Int) (v807 : Int) (v808 : List Int) (k0 : List Int → Option α) : impl_natShift_L2 N 0 v804 v805 v806 v807 v808 k0 = none := by rw [impl_natShift_L2.eq]; rfl
theorem impl_natShift_L2.succ {α : Type} (N n : Nat) (v804 : Int) (v805 : List Int) (v806 : Int) (v807 : Int) (v808 : List Int) (k0 : List Int → Option α) : impl_natShift_L2 N (n + 1) v804 v805 v806 v807 v808 k0 = impl_natShift_L2r N (fun y0 y1 y2 y3 y4 => impl_natShift_L2 N n y0 y1 y2 y3 y4 k0) k0 v804 v805 v806 v807 v808 := by rw [impl_natShift_L2.eq]; rfl
/-- loop.example/pinfold/impl.natShift -/
noncomputable def impl_natShift.b {α : Type} (N : Nat) (a745 : List Int) (a746 : Int) (k0 : List Int → Option α) : Option α :=
  let x747 := (decide (a746 < (0 : Int)))
  bif x747 then
    let x748 := IntKind.i64.wrap (0 - a746)
    let x749 := (IntKind.i64.wrap (Int.tdiv x748 (16 : Int)))
    let x750 := IntKind.i64.wrap (0 - a746)
    let x751 := (Int.tmod x750 (16 : Int))
    let x752 := ((a745.length : Nat) : Int)
    let x753 := decide (x752 ≤ x749)
    bif x753 then
      k0 []
    else
      bif (decide ((0 : Int) ≤ x749)) then
        bif (decide (x749 ≤ ((a745.length : Nat) : Int))) then
          let x754 := a745.drop x749.toNat
          slices_Clone_int_int N x754
            (fun x755 =>
              let x756 := ((x755.length : Nat) : Int)
              impl_natShift_L0 N N a745 x749 x751 x756 (0 : Int) x755
                (fun x796 =>
                  impl_trim N x796
                    (fun x797 =>
                      k0 x797)))
        else
          none
      else
        none
  else
    let x798 := (IntKind.i64.wrap (Int.tdiv a746 (16 : Int)))
    let x799 := ((a745.length : Nat) : Int)
    let x800 := IntKind.i64.wrap (x798 + x799)
    let x801 := (IntKind.i64.wrap (x800 + (1 : Int)))
    bif (decide ((0 : Int) ≤ x801)) then
      bif decide (x801 ≤ x801) then
        bif (decide (x801 ≤ ((8796093022208 : Nat) : Int))) then
          let x802 := (List.replicate x801.toNat (0 : Int))
          let x803 := ((a745.length : Nat) : Int)
          impl_natShift_L2 N N a746 a745 x803 (0 : Int) x802
            (fun x827 =>
              impl_trim N x827
                (fun x828 =>
                  k0 x828))
        else
          none
      else
        none
    else
      none
theorem impl_natShift.ex : ∃ f : ((α : Type) → Nat → List Int → Int → (List Int → Option α) → Option α), f = fun α => @impl_natShift.b α := ⟨_, rfl⟩
noncomputable def impl_natShift {α : Type} : Nat → List Int → Int → (List Int → Option α) → Option α := Classical.choose impl_natShift.ex α
theorem impl_natShift.eq : @impl_natShift = @impl_natShift.b := funext fun α => congrFun (Classical.choose_spec impl_natShift.ex) α

noncomputable def impl_natDiv_L0r {α : Type} (N : Nat) (next : List Int → List Int → Int → Int → List Int → Option α) (k0 : Int → List Int → Option α) (v625 : List Int) (v626 : List Int) (v627 : Int) (v628 : Int) (v629 : List Int) : Option α :=
  let x630 := (decide ((0 : Int) ≤ v628))
  bif x630 then
    let x631 := (shlI .i64 v627 (16 : Int))
    bif (decide (v628 < (0 : Int))) then
      none
    else
      match v625[v628.toNat]? with
      | some x632 =>
        let x633 := bitI .or .i64 x631 x632
        match v626[0]? with
        | some x634 =>
          bif (decide (x634 = (0 : Int))) then
            none
          else
            let x635 := IntKind.i64.wrap (Int.tdiv x633 x634)
            match v626[0]? with
            | some x636 =>
              bif (decide (x636 = (0 : Int))) then
                none
              else
                let x637 := Int.tmod x633 x636
                bif (decide (v628 < (0 : Int))) then
                  none
                else
                  bif decide (v628.toNat < v629.length) then
                    match v629[v628.toNat]? with
                    | some x638 =>
                      let x639 := v629.set v628.toNat x635
                      let x640 := (IntKind.i64.wrap (v628 - (1 : Int)))
                      next v625 v626 x637 x640 x639
                    | none => none
                  else
                    none
            | none => none
        | none => none
      | none => none
  else
    k0 v627 v629
noncomputable def impl_natDiv_L0.b {α : Type} (N n : Nat) (v625 : List Int) (v626 : List Int) (v627 : Int) (v628 : Int) (v629 : List Int) (k0 : Int → List Int → Option α) : Option α :=
  Nat.rec (motive := fun _ => List Int → List Int → Int → Int → List Int → Option α) (fun _ _ _ _ _ => none) (fun _ next => impl_natDiv_L0r N next k0) n v625 v626 v627 v628 v629
theorem impl_natDiv_L0.ex : ∃ f : ((α : Type) → Nat → Nat → List Int → List Int → Int → Int → List Int → (Int → List Int → Option α) → Option α), f = fun α => @impl_natDiv_L0.b α := ⟨_, rfl⟩
noncomputable def impl_natDiv_L0 {α : Type} : Nat → Nat → List Int → List Int → Int → Int → List Int → (Int → List Int → Option α) → Option α := Classical.choose impl_natDiv_L0.ex α
theorem impl_natDiv_L0.eq : @impl_natDiv_L0 = @impl_natDiv_L0.b := funext fun α => congrFun (Classical.choose_spec impl_natDiv_L0.ex) α
theorem impl_natDiv_L0.zero {α : Type} (N : Nat) (v625 : List Int) (v626 : List Int) (v627 : Int) (v628 : Int) (v629 : List Int) (k0 : Int → List Int → Option α) : impl_natDiv_L0 N 0 v625 v626 v627 v628 v629 k0 = none := by rw [impl_natDiv_L0.eq]; rfl
theorem impl_natDiv_L0.succ {α : Type} (N n : Nat) (v625 : List Int) (v626 : List Int) (v627 : Int) (v628 : Int) (v629 : List Int) (k0 : Int → List Int → Option α) : impl_natDiv_L0 N (n + 1) v625 v626 v627 v628 v629 k0 = impl_natDiv_L0r N (fun y0 y1 y2 y3 y4 => impl_natDiv_L0 N n y0 y1 y2 y3 y4 k0) k0 v625 v626 v627 v628 v629 := by rw [impl_natDiv_L0.eq]; rfl
noncomputable def impl_natDiv_L2r {α : Type} (N : Nat) (next : List Int → Int → List Int → Int → List Int → Option α) (k0 : Int → List Int → Int → List Int → Option α) (v835 : List Int) (v836 : Int) (v837 : List Int) (v838 : Int) (v839 : List Int) : Option α :=
  let x840 := ((v839.length : Nat) : Int)
  let x841 := ((v835.length : Nat) : Int)
  let x842 := (IntKind.i64.wrap (x841 + (1 : Int)))
  let x843 := decide (x840 < x842)
  bif x843 then
    let x844 := [(0 : Int)]
    bif decide (v839.length + x844.length ≤ 8796093022208) then
      let x845 := v839 ++ x844
      next v835 v836 v837 v838 x845
    else
      none
  else
    k0 v836 v837 v838 v839
noncomputable def impl_natDiv_L2.b {α : Type} (N n : Nat) (v835 : List Int) (v836 : Int) (v837 : List Int) (v838 : Int) (v839 : List Int) (k0 : Int → List Int → Int → List Int → Option α) : Option α :=
  Nat.rec (motive := fun _ => List Int → Int → List Int → Int → List Int → Option α) (fun _ _ _ _ _ => none) (fun _ next => impl_natDiv_L2r N next k0) n v835 v836 v837 v838 v839
theorem impl_natDiv_L2.ex : ∃ f : ((α : Type) → Nat → Nat → List Int → Int → List Int → Int → List Int → (Int → List Int → Int → List Int → Option α) → Option α), f = fun α => @impl_natDiv_L2.b α := ⟨_, rfl⟩
noncomputable def impl_natDiv_L2 {α : Type} : Nat → Nat → List Int → Int → List Int → Int → List Int → (Int → List Int → Int → List Int → Option α) → Option α := Classical.choose impl_natDiv_L2.ex α
theorem impl_natDiv_L2.eq : @impl_natDiv_L2 = @impl_natDiv_L2.b := funext fun α => congrFun (Classical.choose_spec impl_natDiv_L2.ex) α
theorem impl_natDiv_L2.zero {α : Type} (N : Nat) (v835 : List Int) (v836 : Int) (v837 : List Int) (v838 : Int) (v839 : List Int) (k0 : Int → List Int → Int → List Int → Option α) : impl_natDiv_L2 N 0 v835 v836 v837 v838 v839 k0 = none := by rw [impl_natDiv_L2.eq]; rfl
theorem impl_natDiv_L2.succ {α : Type} (N n : Nat) (v835 : List Int) (v836 : Int) (v837 : List Int) (v838 : Int) (v839 : List Int) (k0 : Int → List Int → Int → List Int → Option α) : impl_natDiv_L2 N (n + 1) v835 v836 v837 v838 v839 k0 = impl_natDiv_L2r N (fun y0 y1 y2 y3 y4 => impl_natDiv_L2 N n y0 y1 y2 y3 y4 k0) k0 v835 v836 v837 v838 v839 := by rw [impl_natDiv_L2.eq]; rfl
noncomputable def impl_natDiv_L6r {α : Type} (N : Nat) (next : Int → List Int → Int → Int → Int → Int → List Int → List Int → Option α) (k0 : Int → List Int → Int → Int → Int → List Int → List Int → Option α) (v876 : Int) (v877 : List Int) (v878 : Int) (v879 : Int) (v880 : Int) (v881 : Int) (v882 : List Int) (v883 : List Int) : Option α :=
  let x884 := (decide ((65536 : Int) ≤ v880))
  bif x884 then
    let x885 := (IntKind.i64.wrap (v880 - (1 : Int)))
    let x886 := (IntKind.i64.wrap (v878 - (1 : Int)))
    bif (decide (x886 < (0 : Int))) then
      none
    else
      match v877[x886.toNat]? with
      | some x887 =>
        let x888 := IntKind.i64.wrap (v881 + x887)
        let x889 := (decide ((65536 : Int) ≤ x888))
        bif x889 then
          k0 v876 v877 v878 v879 x885 v882 v883
        else
          next v876 v877 v878 v879 x885 x888 v882 v883
      | none => none
  else
    let x890 := (IntKind.i64.wrap (v878 - (2 : Int)))
    bif (decide (x890 < (0 : Int))) then
      none
    else
      match v877[x890.toNat]? with
      | some x891 =>
        let x892 := IntKind.i64.wrap (v880 * x891)
        let x893 := (shlI .i64 v881 (16 : Int))
        let x894 := IntKind.i64.wrap (v879 + v878)
        let x895 := (IntKind.i64.wrap (x894 - (2 : Int)))
        bif (decide (x895 < (0 : Int))) then
          none
        else
          bif decide (x895.toNat < v882.length) then
            match v882[x895.toNat]? with
            | some x896 =>
              let x897 := bitI .or .i64 x893 x896
              let x898 := decide (x897 < x892)
              bif x898 then
                let x899 := (IntKind.i64.wrap (v880 - (1 : Int)))
                let x900 := (IntKind.i64.wrap (v878 - (1 : Int)))
                bif (decide (x900 < (0 : Int))) then
                  none
                else
                  match v877[x900.toNat]? with
                  | some x901 =>
                    let x902 := IntKind.i64.wrap (v881 + x901)
                    let x903 := (decide ((65536 : Int) ≤ x902))
                    bif x903 then
                      k0 v876 v877 v878 v879 x899 v882 v883
                    else
                      next v876 v877 v878 v879 x899 x902 v882 v883
                  | none => none
              else
                k0 v876 v877 v878 v879 v880 v882 v883
            | none => none
          else
            none
      | none => none
noncomputable def impl_natDiv_L6.b {α : Type} (N n : Nat) (v876 : Int) (v877 : List Int) (v878 : Int) (v879 : Int) (v880 : Int) (v881 : Int) (v882 : List Int) (v883 : List Int) (k0 : Int → List Int → Int → Int → Int → List Int → List Int → Option α) : Option α :=
  Nat.rec (motive := fun _ => Int → List Int → Int → Int → Int → Int → List Int → List Int → Option α) (fun _ _ _ _ _ _ _ _ => none) (fun _ next => impl_natDiv_L6r N next k0) n v876 v877 v878 v879 v880 v881 v882 v883
theorem impl_natDiv_L6.ex : ∃ f : ((α : Type) → Nat → Nat → Int → List Int → Int → Int → Int → Int → List Int → List Int → (Int → List Int → Int → Int → Int → List Int → List Int → Option α) → Option α), f = fun α => @impl_natDiv_L6.b α := ⟨_, rfl⟩
noncomputable def impl_natDiv_L6 {α : Type} : Nat → Nat → Int → List Int → Int → Int → Int → Int → List Int → List Int → (Int → List Int → Int → Int → Int → List Int → List Int → Option α) → Option α := Classical.choose impl_natDiv_L6.ex α
theorem impl_natDiv_L6.eq : @impl_natDiv_L6 = @impl_natDiv_L6.b := funext fun α => congrFun (Classical.choose_spec impl_natDiv_L6.ex) α
theorem impl_natDiv_L6.zero {α : Type} (N : Nat) (v876 : Int) (v877 : List Int) (v878 : Int) (v879 : Int) (v880 : Int) (v881 : Int) (v882 : List Int) (v883 : List Int) (k0 : Int → List Int → Int → Int → Int → List Int → List Int → Option α) : impl_natDiv_L6 N 0 v876 v877 v878 v879 v880 v881 v882 v883 k0 = none := by rw [impl_natDiv_L6.eq]; rfl
theorem impl_natDiv_L6.succ {α : Type} (N n : Nat) (v876 : Int) (v877 : List Int) (v878 : Int) (v879 : Int) (v880 : Int) (v881 : Int) (v882 : List Int) (v883 : List Int) (k0 : Int → List Int → Int → Int → Int → List Int → List Int → Option α) : impl_natDiv_L6 N (n + 1) v876 v877 v878 v879 v880 v881 v882 v883 k0 = impl_natDiv_L6r N (fun y0 y1 y2 y3 y4 y5 y6 y7 => impl_natDiv_L6 N n y0 y1 y2 y3 y4 y5 y6 y7 k0) k0 v876 v877 v878 v879 v880 v881 v882 v883 := by rw [impl_natDiv_L6.eq]; rfl
noncomputable def impl_natDiv_J34.b {α : Type} (N : Nat) (v930 : Int) (v931 : List Int) (v932 : Int) (v933 : Int) (v934 : Int) (v935 : Int) (v936 : Int) (v937 : Int) (v938 : List Int) (v939 : Int) (v940 : Int) (v941 : List Int) (v942 : List Int) (k0 : Int → List Int → Int → Int → Int → Int → Int → Int → List Int → Int → Int → List Int → List Int → Option α) : Option α :=
  let x943 := (decide (v937 < (0 : Int)))
  bif x943 then
    let x944 := IntKind.i64.wrap (0 - v937)
    let x945 := (IntKind.i64.wrap (x944 + (65536 : Int)))
    let x946 := (IntKind.i64.wrap (x945 - (1 : Int)))
    let x947 := (IntKind.i64.wrap (Int.tdiv x946 (65536 : Int)))
    let x948 := (IntKind.i64.wrap (x947 * (65536 : Int)))
    let x949 := IntKind.i64.wrap (v937 + x948)
    k0 v930 v931 v932 v933 v934 x947 v936 x949 v938 v939 v940 v941 v942
  else
    k0 v930 v931 v932 v933 v934 v935 v936 v937 v938 v939 v940 v941 v942
theorem impl_natDiv_J34.ex : ∃ f : ((α : Type) → Nat → Int → List Int → Int → Int → Int → Int → Int → Int → List Int → Int → Int → List Int → List Int → (Int → List Int → Int → Int → Int → Int → Int → Int → List Int → Int → Int → List Int → List Int → Option α) → Option α), f = fun α => @impl_natDiv_J34.b α := ⟨_, rfl⟩
noncomputable def impl_natDiv_J34 {α : Type} : Nat → Int → List Int → Int → Int → Int → Int → Int → Int → List Int → Int → Int → List Int → List Int → (Int → List Int → Int → Int → Int → Int → Int → Int → List Int → Int → Int → List Int → List Int → Option α) → Option α := Classical.choose impl_natDiv_J34.ex α
theorem impl_natDiv_J34.eq : @impl_natDiv_J34 = @impl_natDiv_J34.b := funext fun α => congrFun (Classical.choose_spec impl_natDiv_J34.ex) α
noncomputable def impl_natDiv_L8r {α : Type} (N : Nat) (next : Int → List Int → Int → Int → Int → Int → List Int → Int → Int → List Int → List Int → Option α) (k0 : Int → List Int → Int → Int → Int → Int → List Int → List Int → Option α) (v912 : Int) (v913 : List Int) (v914 : Int) (v915 : Int) (v916 : Int) (v917 : Int) (v918 : List Int) (v919 : Int) (v920 : Int) (v921 : List Int) (v922 : List Int) : Option α :=
  let x923 := decide (v920 < v919)
  bif x923 then
    bif (decide (v920 < (0 : Int))) then
      none
    else
      match v918[v920.toNat]? with
      | some x924 =>
        let x925 := IntKind.i64.wrap (v915 + v920)
        bif (decide (x925 < (0 : Int))) then
          none
        else
          bif decide (x925.toNat < v921.length) then
            match v921[x925.toNat]? with
            | some x926 =>
              let x927 := IntKind.i64.wrap (x926 - v917)
              let x928 := IntKind.i64.wrap (v916 * x924)
              let x929 := IntKind.i64.wrap (x927 - x928)
              impl_natDiv_J34 N v912 v913 v914 v915 v916 (0 : Int) v920 x929 v918 v919 v920 v921 v922
                (fun x950 x951 x952 x953 x954 x955 x956 x957 x958 x959 x960 x961 x962 =>
                  let x963 := IntKind.i64.wrap (x953 + x956)
                  bif (decide (x963 < (0 : Int))) then
                    none
                  else
                    bif decide (x963.toNat < x961.length) then
                      match x961[x963.toNat]? with
                      | some x964 =>
                        let x965 := x961.set x963.toNat x957
                        let x966 := (IntKind.i64.wrap (x960 + (1 : Int)))
                        next x950 x951 x952 x953 x954 x955 x958 x959 x966 x965 x962
                      | none => none
                    else
                      none)
            | none => none
          else
            none
      | none => none
  else
    k0 v912 v913 v914 v915 v916 v917 v921 v922
noncomputable def impl_natDiv_L8.b {α : Type} (N n : Nat) (v912 : Int) (v913 : List Int) (v914 : Int) (v915 : Int) (v916 : Int) (v917 : Int) (v918 : List Int) (v919 : Int) (v920 : Int) (v921 : List Int) (v922 : List Int) (k0 : Int → List Int → Int → Int → Int → Int → List Int → List Int → Option α) : Option α :=
  Nat.rec (motive := fun _ => Int → List Int → Int → Int → Int → Int → List Int → Int → Int → List Int → List Int → Option α) (fun _ _ _ _ _ _ _ _ _ _ _ => none) (fun _ next => impl_natDiv_L8r N next k0) n v912 v913 v914 v915 v916 v917 v918 v919 v920 v921 v922
theorem impl_natDiv_L8.ex : ∃ f : ((α : Type) → Nat → Nat → Int → List Int → Int → Int → Int → Int → List Int → Int → Int → List Int → List Int → (Int → List Int → Int → Int → Int → Int → List Int → List Int → Option α) → Option α), f = fun α => @impl_natDiv_L8.b α := ⟨_, rfl⟩
noncomputable def impl_natDiv_L8 {α : Type} : Nat → Nat → Int → List Int → Int → Int → Int → Int → List Int → Int → Int → List Int → List Int → (Int → List Int → Int → Int → Int → Int → List Int → List Int → Option α) → Option α := Classical.choose impl_natDiv_L8.ex α
theorem impl_natDiv_L8.eq : @impl_natDiv_L8 = @impl_natDiv_L8.b := funext fun α => congrFun (Classical.choose_spec impl_natDiv_L8.ex) α
theorem impl_natDiv_L8.zero {α : Type} (N : Nat) (v912 : Int) (v913 : List Int) (v914 : Int) (v915 : Int) (v916 : Int) (v917 : Int) (v918 : List Int) (v919 : Int) (v920 : Int) (v921 : List Int) (v922 : List Int) (k0 : Int → List Int → Int → Int → Int → Int → List Int → List Int → Option α) : impl_natDiv_L8 N 0 v912 v913 v914 v915 v916 v917 v918 v919 v920 v921 v922 k0 = none := by rw [impl_natDiv_L8.eq]; rfl
theorem impl_natDiv_L8.succ {α : Type} (N n : Nat) (v912 : Int) (v913 : List Int) (v914 : Int) (v915 : Int) (v916 : Int) (v917 : Int) (v918 : List Int) (v919 : Int) (v920 : Int) (v921 : List Int) (v922 : List Int) (k0 : Int → List Int → Int → Int → Int → Int → List Int → List Int → Option α) : impl_natDiv_L8 N (n + 1) v912 v913 v914 v915 v916 v917 v918 v919 v920 v921 v922 k0 = impl_natDiv_L8r N (fun y0 y1 y2 y3 y4 y5 y6 y7 y8 y9 y10 => impl_natDiv_L8 N n y0 y1 y2 y3 y4 y5 y6 y7 y8 y9 y10 k0) k0 v912 v913 v914 v915 v916 v917 v918 v919 v920 v921 v922 := by rw [impl_natDiv_L8.eq]; rfl
noncomputable def impl_natDiv_L10r {α : Type} (N : Nat) (next : Int → List Int → Int → Int → Int → Int → List Int → Int → Int → List Int → List Int → Option α) (k0 : Int → List Int → Int → Int → Int → Int → List Int → List Int → Option α) (v992 : Int) (v993 : List Int) (v994 : Int) (v995 : Int) (v996 : Int) (v997 : Int) (v998 : List Int) (v999 : Int) (v1000 : Int) (v1001 : List Int) (v1002 : List Int) : Option α :=
  let x1003 := decide (v1000 < v999)
  bif x1003 then
    bif (decide (v1000 < (0 : Int))) then
      none
    else
      match v998[v1000.toNat]? with
      | some x1004 =>
        let x1005 := IntKind.i64.wrap (v995 + v1000)
        bif (decide (x1005 < (0 : Int))) then
          none
        else
          bif decide (x1005.toNat < v1001.length) then
            match v1001[x1005.toNat]? with
            | some x1006 =>
              let x1007 := IntKind.i64.wrap (x1006 + x1004)
              let x1008 := IntKind.i64.wrap (x1007 + v997)
              let x1009 := IntKind.i64.wrap (v995 + v1000)
              let x1010 := (bitI .and .i64 x1008 (65535 : Int))
              let x1011 := (shrI .i64 x1008 (16 : Int))
              bif (decide (x1009 < (0 : Int))) then
                none
              else
                bif decide (x1009.toNat < v1001.length) then
                  match v1001[x1009.toNat]? with
                  | some x1012 =>
                    let x1013 := v1001.set x1009.toNat x1010
                    let x1014 := (IntKind.i64.wrap (v1000 + (1 : Int)))
                    next v992 v993 v994 v995 v996 x1011 v998 v999 x1014 x1013 v1002
                  | none => none
                else
                  none
            | none => none
          else
            none
      | none => none
  else
    k0 v992 v993 v994 v995 v996 v997 v1001 v1002
noncomputable def impl_natDiv_L10.b {α : Type} (N n : Nat) (v992 : Int) (v993 : List Int) (v994 : Int) (v995 : Int) (v996 : Int) (v997 : Int) (v998 : List Int) (v999 : Int) (v1000 : Int) (v1001 : List Int) (v1002 : List Int) (k0 : Int → List Int → Int → Int → Int → Int → List Int → List Int → Option α) : Option α :=
  Nat.rec (motive := fun _ => Int → List Int → Int → Int → Int → Int → List Int → Int → Int → List Int → List Int → Option α) (fun _ _ _ _ _ _ _ _ _ _ _ => none) (fun _ next => impl_natDiv_L10r N next k0) n v992 v993 v994 v995 v996 v997 v998 v999 v1000 v1001 v1002
theorem impl_natDiv_L10.ex : ∃ f : ((α : Type) → Nat → Nat → Int → List Int → Int → Int → Int → Int → List Int → Int → Int → List Int → List Int → (Int → List Int → Int → Int → Int → Int → List Int → List Int → Option α) → Option α), f = fun α => @impl_natDiv_L10.b α := ⟨_, rfl⟩
noncomputable def impl_natDiv_L10 {α : Type} : Nat → Nat → Int → List Int → Int → Int → Int → Int → List Int → Int → Int → List Int → List Int → (Int → List Int → Int → Int → Int → Int → List Int → List Int → Option α) → Option α := Classical.choose impl_natDiv_L10.ex α
theorem impl_natDiv_L10.eq : @impl_natDiv_L10 = @impl_natDiv_L10.b := funext fun α => congrFun (Classical.choose_spec impl_natDiv_L10.ex) α
theorem impl_natDiv_L10.zero {α : Type} (N : Nat) (v992 : Int) (v993 : List Int) (v994 : Int) (v995 : Int) (v996 : Int) (v997 : Int) (v998 : List Int) (v999 : Int) (v1000 : Int) (v1001 : List Int) (v1002 : List Int) (k0 : Int → List Int → Int → Int → Int → Int → List Int → List Int → Option α) : impl_natDiv_L10 N 0 v992 v993 v994 v995 v996 v997 v998 v999 v1000 v1001 v1002 k0 = none := by rw [impl_natDiv_L10.eq]; rfl
theorem impl_natDiv_L10.succ {α : Type} (N n : Nat) (v992 : Int) (v993 : List Int) (v994 : Int) (v995 : Int) (v996 : Int) (v997 : Int) (v998 : List Int) (v999 : Int) (v1000 : Int) (v1001 : List Int) (v1002 : List Int) (k0 : Int → List Int → Int → Int → Int → Int → List Int → List Int → Option α) : impl_natDiv_L10 N (n + 1) v992 v993 v994 v995 v996 v997 v998 v999 v1000 v1001 v1002 k0 = impl_natDiv_L10r N (fun y0 y1 y2 y3 y4 y5 y6 y7 y8 y9 y10 => impl_natDiv_L10 N n y0 y1 y2 y3 y4 y5 y6 y7 y8 y9 y10 k0) k0 v992 v993 v994 v995 v996 v997 v998 v999 v1000 v1001 v1002 := by rw [impl_natDiv_L10.eq]; rfl
noncomputable def impl_natDiv_J40.b {α : Type} (N : Nat) (v980 : Int) (v981 : List Int) (v982 : Int) (v983 : Int) (v984 : Int) (v985 : List Int) (v986 : List Int) (k0 : Int → List Int → Int → Int → Int → List Int → List Int → Option α) : Option α :=
  let x987 := IntKind.i64.wrap (v983 + v982)
  bif (decide (x987 < (0 : Int))) then
    none
  else
    bif decide (x987.toNat < v985.length) then
      match v985[x987.toNat]? with
      | some x988 =>
        let x989 := (decide (x988 < (0 : Int)))
        bif x989 then
          let x990 := (IntKind.i64.wrap (v984 - (1 : Int)))
          let x991 := ((v981.length : Nat) : Int)
          impl_natDiv_L10 N N v980 v981 v982 v983 x990 (0 : Int) v981 x991 (0 : Int) v985 v986
            (fun x1015 x1016 x1017 x1018 x1019 x1020 x1021 x1022 =>
              let x1023 := IntKind.i64.wrap (x1018 + x1017)
              bif (decide (x1023 < (0 : Int))) then
                none
              else
                bif decide (x1023.toNat < x1021.length) then
                  match x1021[x1023.toNat]? with
                  | some x1024 =>
                    let x1025 := IntKind.i64.wrap (x1024 + x1020)
                    bif (decide (x1023 < (0 : Int))) then
                      none
                    else
                      bif decide (x1023.toNat < x1021.length) then
                        match x1021[x1023.toNat]? with
                        | some x1026 =>
                          let x1027 := x1021.set x1023.toNat x1025
                          k0 x1015 x1016 x1017 x1018 x1019 x1027 x1022
                        | none => none
                      else
                        none
                  | none => none
                else
                  none)
        else
          k0 v980 v981 v982 v983 v984 v985 v986
      | none => none
    else
      none
theorem impl_natDiv_J40.ex : ∃ f : ((α : Type) → Nat → Int → List Int → Int → Int → Int → List Int → List Int → (Int → List Int → Int → Int → Int → List Int → List Int → Option α) → Option α), f = fun α => @impl_natDiv_J40.b α := ⟨_, rfl⟩
noncomputable def impl_natDiv_J40 {α : Type} : Nat → Int → List Int → Int → Int → Int → List Int → List Int → (Int → List Int → Int → Int → Int → List Int → List Int → Option α) → Option α := Classical.choose impl_natDiv_J40.ex α
theorem impl_natDiv_J40.eq : @impl_natDiv_J40 = @impl_natDiv_J40.b := funext fun α => congrFun (Classical.choose_spec impl_natDiv_J40.ex) α
noncomputable def impl_natDiv_L4r {α : Type} (N : Nat) (next : Int → List Int → Int → Int → List Int → List Int → Option α) (k0 : Int → List Int → List Int → Option α) (v856 : Int) (v857 : List Int) (v858 : Int) (v859 : Int) (v860 : List Int) (v861 : List Int) : Option α :=
  let x862 := (decide ((0 : Int) ≤ v859))
  bif x862 then
    let x863 := IntKind.i64.wrap (v859 + v858)
    bif (decide (x863 < (0 : Int))) then
      none
    else
      bif decide (x863.toNat < v860.length) then
        match v860[x863.toNat]? with
        | some x864 =>
          let x865 := (shlI .i64 x864 (16 : Int))
          let x866 := IntKind.i64.wrap (v859 + v858)
          let x867 := (IntKind.i64.wrap (x866 - (1 : Int)))
          bif (decide (x867 < (0 : Int))) then
            none
          else
            bif decide (x867.toNat < v860.length) then
              match v860[x867.toNat]? with
              | some x868 =>
                let x869 := bitI .or .i64 x865 x868
                let x870 := (IntKind.i64.wrap (v858 - (1 : Int)))
                bif (decide (x870 < (0 : Int))) then
                  none
                else
                  match v857[x870.toNat]? with
                  | some x871 =>
                    bif (decide (x871 = (0 : Int))) then
                      none
                    else
                      let x872 := IntKind.i64.wrap (Int.tdiv x869 x871)
                      let x873 := (IntKind.i64.wrap (v858 - (1 : Int)))
                      bif (decide (x873 < (0 : Int))) then
                        none
                      else
                        match v857[x873.toNat]? with
                        | some x874 =>
                          bif (decide (x874 = (0 : Int))) then
                            none
                          else
                            let x875 := Int.tmod x869 x874
                            impl_natDiv_L6 N N v856 v857 v858 v859 x872 x875 v860 v861
                              (fun x904 x905 x906 x907 x908 x909 x910 =>
                                let x911 := ((x905.length : Nat) : Int)
                                impl_natDiv_L8 N N x904 x905 x906 x907 x908 (0 : Int) x905 x911 (0 : Int) x909 x910
                                  (fun x967 x968 x969 x970 x971 x972 x973 x974 =>
                                    let x975 := IntKind.i64.wrap (x970 + x969)
                                    bif (decide (x975 < (0 : Int))) then
                                      none
                                    else
                                      bif decide (x975.toNat < x973.length) then
                                        match x973[x975.toNat]? with
                                        | some x976 =>
                                          let x977 := IntKind.i64.wrap (x976 - x972)
                                          bif (decide (x975 < (0 : Int))) then
                                            none
                                          else
                                            bif decide (x975.toNat < x973.length) then
                                              match x973[x975.toNat]? with
                                              | some x978 =>
                                                let x979 := x973.set x975.toNat x977
                                                impl_natDiv_J40 N x967 x968 x969 x970 x971 x979 x974
                                                  (fun x1028 x1029 x1030 x1031 x1032 x1033 x1034 =>
                                                    bif (decide (x1031 < (0 : Int))) then
                                                      none
                                                    else
                                                      bif decide (x1031.toNat < x1034.length) then
                                                        match x1034[x1031.toNat]? with
                                                        | some x1035 =>
                                                          let x1036 := x1034.set x1031.toNat x1032
                                                          let x1037 := (IntKind.i64.wrap (x1031 - (1 : Int)))
                                                          next x1028 x1029 x1030 x1037 x1033 x1036
                                                        | none => none
                                                      else
                                                        none)
                                              | none => none
                                            else
                                              none
                                        | none => none
                                      else
                                        none))
                        | none => none
                  | none => none
              | none => none
            else
              none
        | none => none
      else
        none
  else
    k0 v856 v860 v861
noncomputable def impl_natDiv_L4.b {α : Type} (N n : Nat) (v856 : Int) (v857 : List Int) (v858 : Int) (v859 : Int) (v860 : List Int) (v861 : List Int) (k0 : Int → List Int → List Int → Option α) : Option α :=
  Nat.rec (motive := fun _ => Int → List Int → Int → Int → List Int → List Int → Option α) (fun _ _ _ _ _ _ => none) (fun _ next => impl_natDiv_L4r N next k0) n v856 v857 v858 v859 v860 v861
theorem impl_natDiv_L4.ex : ∃ f : ((α : Type) → Nat → Nat → Int → List Int → Int → Int → List Int → List Int → (Int → List Int → List Int → Option α) → Option α), f = fun α => @impl_natDiv_L4.b α := ⟨_, rfl⟩
noncomputable def impl_natDiv_L4 {α : Type} : Nat → Nat → Int → List Int → Int → Int → List Int → List Int → (Int → List Int → List Int → Option α) → Option α := Classical.choose impl_natDiv_L4.ex α
theorem impl_natDiv_L4.eq : @impl_natDiv_L4 = @impl_natDiv_L4.b := funext fun α => congrFun (Classical.choose_spec impl_natDiv_L4.ex) α
theorem impl_natDiv_L4.zero {α : Type} (N : Nat) (v856 : Int) (v857 : List Int) (v858 : Int) (v859 : Int) (v860 : List Int) (v861 : List Int) (k0 : Int → List Int → List Int → Option α) : impl_natDiv_L4 N 0 v856 v857 v858 v859 v860 v861 k0 = none := by rw [impl_natDiv_L4.eq]; rfl
theorem impl_natDiv_L4.succ {α : Type} (N n : Nat) (v856 : Int) (v857 : List Int) (v858 : Int) (v859 : Int) (v860 : List Int) (v861 : List Int) (k0 : Int → List Int → List Int → Option α) : impl_natDiv_L4 N (n + 1) v856 v857 v858 v859 v860 v861 k0 = impl_natDiv_L4r N (fun y0 y1 y2 y3 y4 y5 => impl_natDiv_L4 N n y0 y1 y2 y3 y4 y5 k0) k0 v856 v857 v858 v859 v860 v861 := by rw [impl_natDiv_L4.eq]; rfl
/-- loop.example/pinfold/impl.natDiv -/
noncomputable def impl_natDiv.b {α : Type} (N : Nat) (a589 : List Int) (a590 : List Int) (k0 : List Int → List Int → Option α) : Option α :=
  impl_natCmp N a589 a590
    (fun x617 =>
      let x618 := (decide (x617 < (0 : Int)))
      bif x618 then
        k0 [] a589
      else
        let x619 := ((a590.length : Nat) : Int)
        let x620 := (decide (x619 = (1 : Int)))
        bif x620 then
          let x621 := ((a589.length : Nat) : Int)
          bif (decide ((0 : Int) ≤ x621)) then
            bif decide (x621 ≤ x621) then
              bif (decide (x621 ≤ ((8796093022208 : Nat) : Int))) then
                let x622 := (List.replicate x621.toNat (0 : Int))
                let x623 := ((a589.length : Nat) : Int)
                let x624 := (IntKind.i64.wrap (x623 - (1 : Int)))
                impl_natDiv_L0 N N a589 a590 (0 : Int) x624 x622
                  (fun x641 x642 =>
                    impl_trim N x642
                      (fun x655 =>
                        let x656 := [x641]
                        impl_trim N x656
                          (fun x657 =>
                            k0 x655 x657)))
              else
                none
            else
              none
          else
            none
        else
          let x658 := ((a590.length : Nat) : Int)
          let x659 := (IntKind.i64.wrap (x658 - (1 : Int)))
          bif (decide (x659 < (0 : Int))) then
            none
          else
            match a590[x659.toNat]? with
            | some x660 =>
              let x661 := IntKind.u64.wrap x660
              math_bits_Len N x661
                (fun x690 =>
                  let x691 := (IntKind.i64.wrap ((16 : Int) - x690))
                  impl_natShift N a590 x691
                    (fun x829 =>
                      impl_natShift N a589 x691
                        (fun x830 =>
                          slices_Clone_int_int N x830
                            (fun x831 =>
                              let x832 := [(0 : Int)]
                              bif decide (x831.length + x832.length ≤ 8796093022208) then
                                let x833 := x831 ++ x832
                                let x834 := ((x829.length : Nat) : Int)
                                impl_natDiv_L2 N N a589 x691 x829 x834 x833
                                  (fun x846 x847 x848 x849 =>
                                    let x850 := ((x849.length : Nat) : Int)
                                    let x851 := IntKind.i64.wrap (x850 - x848)
                                    bif (decide ((0 : Int) ≤ x851)) then
                                      bif decide (x851 ≤ x851) then
                                        bif (decide (x851 ≤ ((8796093022208 : Nat) : Int))) then
                                          let x852 := (List.replicate x851.toNat (0 : Int))
                                          let x853 := ((x849.length : Nat) : Int)
                                          let x854 := IntKind.i64.wrap (x853 - x848)
                                          let x855 := (IntKind.i64.wrap (x854 - (1 : Int)))
                                          impl_natDiv_L4 N N x846 x847 x848 x855 x849 x852
                                            (fun x1038 x1039 x1040 =>
                                              impl_trim N x1040
                                                (fun x1041 =>
                                                  impl_trim N x1039
                                                    (fun x1042 =>
                                                      let x1043 := IntKind.i64.wrap (0 - x1038)
                                                      impl_natShift N x1042 x1043
                                                        (fun x1044 =>
                                                          k0 x1041 x1044))))
                                        else
                                          none
                                      else
                                        none
                                    else
                                      none)
                              else
                                none))))
            | none => none)
theorem impl_natDiv.ex : ∃ f : ((α : Type) → Nat → List Int → List Int → (List Int → List Int → Option α) → Option α), f = fun α => @impl_natDiv.b α := ⟨_, rfl⟩
noncomputable def impl_natDiv {α : Type} : Nat → List Int → List Int → (List Int → List Int → Option α) → Option α := Classical.choose impl_natDiv.ex α
theorem impl_natDiv.eq : @impl_natDiv = @impl_natDiv.b := funext fun α => congrFun (Classical.choose_spec impl_natDiv.ex) α

noncomputable def impl_natGcd_L0r {α : Type} (N : Nat) (next : List Int → List Int → Option α) (k0 : List Int → Option α) (v516 : List Int) (v517 : List Int) : Option α :=
  let x518 := ((v517.length : Nat) : Int)
  let x519 := (decide ((0 : Int) < x518))
  bif x519 then
    impl_natDiv N v516 v517
      (fun _ x1046 =>
        next v517 x1046)
  else
    k0 v516
noncomputable def impl_natGcd_L0.b {α : Type} (N n : Nat) (v516 : List Int) (v517 : List Int) (k0 : List Int → Option α) : Option α :=
  Nat.rec (motive := fun _ => List Int → List Int → Option α) (fun _ _ => none) (fun _ next => impl_natGcd_L0r N next k0) n v516 v517
theorem impl_natGcd_L0.ex : ∃ f : ((α : Type) → Nat → Nat → List Int → List Int → (List Int → Option α) → Option α), f = fun α => @impl_natGcd_L0.b α := ⟨_, rfl⟩
noncomputable def impl_natGcd_L0 {α : Type} : Nat → Nat → List Int → List Int → (List Int → Option α) → Option α := Classical.choose impl_natGcd_L0.ex α
theorem impl_natGcd_L0.eq : @impl_natGcd_L0 = @impl_natGcd_L0.b := funext fun α => congrFun (Classical.choose_spec impl_natGcd_L0.ex) α
theorem impl_natGcd_L0.zero {α : Type} (N : Nat) (v516 : List Int) (v517 : List Int) (k0 : List Int → Option α) : impl_natGcd_L0 N 0 v516 v517 k0 = none := by rw [impl_natGcd_L0.eq]; rfl
theorem impl_natGcd_L0.succ {α : Type} (N n : Nat) (v516 : List Int) (v517 : List Int) (k0 : List Int → Option α) : impl_natGcd_L0 N (n + 1) v516 v517 k0 = impl_natGcd_L0r N (fun y0 y1 => impl_natGcd_L0 N n y0 y1 k0) k0 v516 v517 := by rw [impl_natGcd_L0.eq]; rfl
/-- loop.example/pinfold/impl.natGcd -/
noncomputable def impl_natGcd.b {α : Type} (N : Nat) (a514 : List Int) (a515 : List Int) (k0 : List Int → Option α) : Option α :=
  impl_natGcd_L0 N N a514 a515
    (fun x1047 =>
      k0 x1047)
theorem impl_natGcd.ex : ∃ f : ((α : Type) → Nat → List Int → List Int → (List Int → Option α) → Option α), f = fun α => @impl_natGcd.b α := ⟨_, rfl⟩
noncomputable def impl_natGcd {α : Type} : Nat → List Int → List Int → (List Int → Option α) → Option α := Classical.choose impl_natGcd.ex α
theorem impl_natGcd.eq : @impl_natGcd = @impl_natGcd.b := funext fun α => congrFun (Classical.choose_spec impl_natGcd.ex) α

/-- loop.example/pinfold/impl.FracOk -/
noncomputable def impl_FracOk.b {α : Type} (N : Nat) (a454 : Bool × (List Int) × (List Int) × Unit) (k0 : Bool → Option α) : Option α :=
  let x455 := [a454.2.1, a454.2.2.1]
  impl_nats N x455
    (fun x509 =>
      bif x509 then
        let x510 := ((a454.2.2.1.length : Nat) : Int)
        let x511 := (decide ((0 : Int) < x510))
        bif x511 then
          let x512 := ((a454.2.1.length : Nat) : Int)
          let x513 := (decide ((0 : Int) < x512))
          bif x513 then
            impl_natGcd N a454.2.1 a454.2.2.1
              (fun x1048 =>
                let x1049 := [(1 : Int)]
                impl_natCmp N x1048 x1049
                  (fun x1050 =>
                    let x1051 := (decide (x1050 = (0 : Int)))
                    k0 x1051))
          else
            let x1052 := !a454.1
            bif x1052 then
              impl_natGcd N a454.2.1 a454.2.2.1
                (fun x1053 =>
                  let x1054 := [(1 : Int)]
                  impl_natCmp N x1053 x1054
                    (fun x1055 =>
                      let x1056 := (decide (x1055 = (0 : Int)))
                      k0 x1056))
            else
              k0 false
        else
          k0 false
      else
        k0 false)
theorem impl_FracOk.ex : ∃ f : ((α : Type) → Nat → (Bool × (List Int) × (List Int) × Unit) → (Bool → Option α) → Option α), f = fun α => @impl_FracOk.b α := ⟨_, rfl⟩
noncomputable def impl_FracOk {α : Type} : Nat → (Bool × (List Int) × (List Int) × Unit) → (Bool → Option α) → Option α := Classical.choose impl_FracOk.ex α
theorem impl_FracOk.eq : @impl_FracOk = @impl_FracOk.b := funext fun α => congrFun (Classical.choose_spec impl_FracOk.ex) α

noncomputable def impl_natMul_L2r {α : Type} (N : Nat) (next : List Int → Int → Int → Int → List Int → Int → Int → List Int → Int → Int → List Int → Option α) (k0 : List Int → Int → Int → List Int → Int → Int → List Int → Option α) (v1157 : List Int) (v1158 : Int) (v1159 : Int) (v1160 : Int) (v1161 : List Int) (v1162 : Int) (v1163 : Int) (v1164 : List Int) (v1165 : Int) (v1166 : Int) (v1167 : List Int) : Option α :=
  let x1168 := decide (v1166 < v1165)
  bif x1168 then
    bif (decide (v1166 < (0 : Int))) then
      none
    else
      match v1164[v1166.toNat]? with
      | some x1169 =>
        let x1170 := IntKind.i64.wrap (v1158 + v1166)
        bif (decide (x1170 < (0 : Int))) then
          none
        else
          bif decide (x1170.toNat < v1167.length) then
            match v1167[x1170.toNat]? with
            | some x1171 =>
              let x1172 := IntKind.i64.wrap (v1159 * x1169)
              let x1173 := IntKind.i64.wrap (x1171 + x1172)
              let x1174 := IntKind.i64.wrap (x1173 + v1160)
              let x1175 := IntKind.i64.wrap (v1158 + v1166)
              let x1176 := (bitI .and .i64 x1174 (65535 : Int))
              bif (decide (x1175 < (0 : Int))) then
                none
              else
                bif decide (x1175.toNat < v1167.length) then
                  match v1167[x1175.toNat]? with
                  | some x1177 =>
                    let x1178 := v1167.set x1175.toNat x1176
                    let x1179 := (shrI .i64 x1174 (16 : Int))
                    let x1180 := (IntKind.i64.wrap (v1166 + (1 : Int)))
                    next v1157 v1158 v1159 x1179 v1161 v1162 v1163 v1164 v1165 x1180 x1178
                  | none => none
                else
                  none
            | none => none
          else
            none
      | none => none
  else
    k0 v1157 v1158 v1160 v1161 v1162 v1163 v1167
noncomputable def impl_natMul_L2.b {α : Type} (N n : Nat) (v1157 : List Int) (v1158 : Int) (v1159 : Int) (v1160 : Int) (v1161 : List Int) (v1162 : Int) (v1163 : Int) (v1164 : List Int) (v1165 : Int) (v1166 : Int) (v1167 : List Int) (k0 : List Int → Int → Int → List Int → Int → Int → List Int → Option α) : Option α :=
  Nat.rec (motive := fun _ => List Int → Int → Int → Int → List Int → Int → Int → List Int → Int → Int → List Int → Option α) (fun _ _ _ _ _ _ _ _ _ _ _ => none) (fun _ next => impl_natMul_L2r N next k0) n v1157 v1158 v1159 v1160 v1161 v1162 v1163 v1164 v1165 v1166 v1167
theorem impl_natMul_L2.ex : ∃ f : ((α : Type) → Nat → Nat → List Int → Int → Int → Int → List Int → Int → Int → List Int → Int → Int → List Int → (List Int → Int → Int → List Int → Int → Int → List Int → Option α) → Option α), f = fun α => @impl_natMul_L2.b α := ⟨_, rfl⟩
noncomputable def impl_natMul_L2 {α : Type} : Nat → Nat → List Int → Int → Int → Int → List Int → Int → Int → List Int → Int → Int → List Int → (List Int → Int → Int → List Int → Int → Int → List Int → Option α) → Option α := Classical.choose impl_natMul_L2.ex α
theorem impl_natMul_L2.eq : @impl_natMul_L2 = @impl_natMul_L2.b := funext fun α => congrFun (Classical.choose_spec impl_natMul_L2.ex) α
theorem impl_natMul_L2.zero {α : Type} (N : Nat) (v1157 : List Int) (v1158 : Int) (v1159 : Int) (v1160 : Int) (v1161 : List Int) (v1162 : Int) (v1163 : Int) (v1164 : List Int) (v1165 : Int) (v1166 : Int) (v1167 : List Int) (k0 : List Int → Int → Int → List Int → Int → Int → List Int → Option α) : impl_natMul_L2 N 0 v1157 v1158 v1159 v1160 v1161 v1162 v1163 v1164 v1165 v1166 v1167 k0 = none := by rw [impl_natMul_L2.eq]; rfl
theorem impl_natMul_L2.succ {α : Type} (N n : Nat) (v1157 : List Int) (v1158 : Int) (v1159 : Int) (v1160 : Int) (v1161 : List Int) (v1162 : Int) (v1163 : Int) (v1164 : List Int) (v1165 : Int) (v1166 : Int) (v1167 : List Int) (k0 : List Int → Int → Int → List Int → Int → Int → List Int → Option α) : impl_natMul_L2 N (n + 1) v1157 v1158 v1159 v1160 v1161 v1162 v1163 v1164 v1165 v1166 v1167 k0 = impl_natMul_L2r N (fun y0 y1 y2 y3 y4 y5 y6 y7 y8 y9 y10 => impl_natMul_L2 N n y0 y1 y2 y3 y4 y5 y6 y7 y8 y9 y10 k0) k0 v1157 v1158 v1159 v1160 v1161 v1162 v1163 v1164 v1165 v1166 v1167 := by rw [impl_natMul_L2.eq]; rfl
noncomputable def impl_natMul_L0r {α : Type} (N : Nat) (next : List Int → List Int → Int → Int → List Int → Option α) (k0 : List Int → Option α) (v1149 : List Int) (v1150 : List Int) (v1151 : Int) (v1152 : Int) (v1153 : List Int) : Option α :=
  let x1154 := decide (v1152 < v1151)
  bif x1154 then
    bif (decide (v1152 < (0 : Int))) then
      none
    else
      match v1150[v1152.toNat]? with
      | some x1155 =>
        let x1156 := ((v1149.length : Nat) : Int)
        impl_natMul_L2 N N v1149 v1152 x1155 (0 : Int) v1150 v1151 v1152 v1149 x1156 (0 : Int) v1153
          (fun x1181 x1182 x1183 x1184 x1185 x1186 x1187 =>
            let x1188 := ((x1181.length : Nat) : Int)
            let x1189 := IntKind.i64.wrap (x1182 + x1188)
            bif (decide (x1189 < (0 : Int))) then
              none
            else
              bif decide (x1189.toNat < x1187.length) then
                match x1187[x1189.toNat]? with
                | some x1190 =>
                  let x1191 := IntKind.i64.wrap (x1190 + x1183)
                  bif (decide (x1189 < (0 : Int))) then
                    none
                  else
                    bif decide (x1189.toNat < x1187.length) then
                      match x1187[x1189.toNat]? with
                      | some x1192 =>
                        let x1193 := x1187.set x1189.toNat x1191
                        let x1194 := (IntKind.i64.wrap (x1186 + (1 : Int)))
                        next x1181 x1184 x1185 x1194 x1193
                      | none => none
                    else
                      none
                | none => none
              else
                none)
      | none => none
  else
    k0 v1153
noncomputable def impl_natMul_L0.b {α : Type} (N n : Nat) (v1149 : List Int) (v1150 : List Int) (v1151 : Int) (v1152 : Int) (v1153 : List Int) (k0 : List Int → Option α) : Option α :=
  Nat.rec (motive := fun _ => List Int → List Int → Int → Int → List Int → Option α) (fun _ _ _ _ _ => none) (fun _ next => impl_natMul_L0r N next k0) n v1149 v1150 v1151 v1152 v1153
theorem impl_natMul_L0.ex : ∃ f : ((α : Type) → Nat → Nat → List Int → List Int → Int → Int → List Int → (List Int → Option α) → Option α), f = fun α => @impl_natMul_L0.b α := ⟨_, rfl⟩
noncomputable def impl_natMul_L0 {α : Type} : Nat → Nat → List Int → List Int → Int → Int → List Int → (List Int → Option α) → Option α := Classical.choose impl_natMul_L0.ex α
theorem impl_natMul_L0.eq : @impl_natMul_L0 = @impl_natMul_L0.b := funext fun α => congrFun (Classical.choose_spec impl_natMul_L0.ex) α
theorem impl_natMul_L0.zero {α : Type} (N : Nat) (v1149 : List Int) (v1150 : List Int) (v1151 : Int) (v1152 : Int) (v1153 : List Int) (k0 : List Int → Option α) : impl_natMul_L0 N 0 v1149 v1150 v1151 v1152 v1153 k0 = none := by rw [impl_natMul_L0.eq]; rfl
theorem impl_natMul_L0.succ {α : Type} (N n : Nat) (v1149 : List Int) (v1150 : List Int) (v1151 : Int) (v1152 : Int) (v1153 : List Int) (k0 : List Int → Option α) : impl_natMul_L0 N (n + 1) v1149 v1150 v1151 v1152 v1153 k0 = impl_natMul_L0r N (fun y0 y1 y2 y3 y4 => impl_natMul_L0 N n y0 y1 y2 y3 y4 k0) k0 v1149 v1150 v1151 v1152 v1153 := by rw [impl_natMul_L0.eq]; rfl
/-- loop.example/pinfold/impl.natMul -/
noncomputable def impl_natMul.b {α : Type} (N : Nat) (a1141 : List Int) (a1142 : List Int) (k0 : List Int → Option α) : Option α :=
  let x1143 := ((a1141.length : Nat) : Int)
  let x1144 := ((a1142.length : Nat) : Int)
  let x1145 := IntKind.i64.wrap (x1143 + x1144)
  let x1146 := (IntKind.i64.wrap (x1145 + (1 : Int)))
  bif (decide ((0 : Int) ≤ x1146)) then
    bif decide (x1146 ≤ x1146) then
      bif (decide (x1146 ≤ ((8796093022208 : Nat) : Int))) then
        let x1147 := (List.replicate x1146.toNat (0 : Int))
        let x1148 := ((a1141.length : Nat) : Int)
        impl_natMul_L0 N N a1142 a1141 x1148 (0 : Int) x1147
          (fun x1195 =>
            impl_trim N x1195
              (fun x1196 =>
                k0 x1196))
      else
        none
    else
      none
  else
    none
theorem impl_natMul.ex : ∃ f : ((α : Type) → Nat → List Int → List Int → (List Int → Option α) → Option α), f = fun α => @impl_natMul.b α := ⟨_, rfl⟩
noncomputable def impl_natMul {α : Type} : Nat → List Int → List Int → (List Int → Option α) → Option α := Classical.choose impl_natMul.ex α
theorem impl_natMul.eq : @impl_natMul = @impl_natMul.b := funext fun α => congrFun (Classical.choose_spec impl_natMul.ex) α

noncomputable def impl_natPow_L0r {α : Type} (N : Nat) (next : List Int → List Int → Int → Int → Option α) (k0 : List Int → Option α) (v1136 : List Int) (v1137 : List Int) (v1138 : Int) (v1139 : Int) : Option α :=
  let x1140 := decide (v1139 < v1138)
  bif x1140 then
    impl_natMul N v1137 v1136
      (fun x1197 =>
        let x1198 := ((x1197.length : Nat) : Int)
        let x1199 := (decide ((1024 : Int) < x1198))
        bif x1199 then
          k0 x1197
        else
          let x1200 := (IntKind.i64.wrap (v1139 + (1 : Int)))
          next v1136 x1197 v1138 x1200)
  else
    k0 v1137
noncomputable def impl_natPow_L0.b {α : Type} (N n : Nat) (v1136 : List Int) (v1137 : List Int) (v1138 : Int) (v1139 : Int) (k0 : List Int → Option α) : Option α :=
  Nat.rec (motive := fun _ => List Int → List Int → Int → Int → Option α) (fun _ _ _ _ => none) (fun _ next => impl_natPow_L0r N next k0) n v1136 v1137 v1138 v1139
theorem impl_natPow_L0.ex : ∃ f : ((α : Type) → Nat → Nat → List Int → List Int → Int → Int → (List Int → Option α) → Option α), f = fun α => @impl_natPow_L0.b α := ⟨_, rfl⟩
noncomputable def impl_natPow_L0 {α : Type} : Nat → Nat → List Int → List Int → Int → Int → (List Int → Option α) → Option α := Classical.choose impl_natPow_L0.ex α
theorem impl_natPow_L0.eq : @impl_natPow_L0 = @impl_natPow_L0.b := funext fun α => congrFun (Classical.choose_spec impl_natPow_L0.ex) α
theorem impl_natPow_L0.zero {α : Type} (N : Nat) (v1136 : List Int) (v1137 : List Int) (v1138 : Int) (v1139 : Int) (k0 : List Int → Option α) : impl_natPow_L0 N 0 v1136 v1137 v1138 v1139 k0 = none := by rw [impl_natPow_L0.eq]; rfl
theorem impl_natPow_L0.succ {α : Type} (N n : Nat) (v1136 : List Int) (v1137 : List Int) (v1138 : Int) (v1139 : Int) (k0 : List Int → Option α) : impl_natPow_L0 N (n + 1) v1136 v1137 v1138 v1139 k0 = impl_natPow_L0r N (fun y0 y1 y2 y3 => impl_natPow_L0 N n y0 y1 y2 y3 k0) k0 v1136 v1137 v1138 v1139 := by rw [impl_natPow_L0.eq]; rfl
/-- loop.example/pinfold/impl.natPow -/
noncomputable def impl_natPow.b {α : Type} (N : Nat) (a1133 : List Int) (a1134 : Int) (k0 : List Int → Option α) : Option α :=
  let x1135 := [(1 : Int)]
  impl_natPow_L0 N N a1133 x1135 a1134 (0 : Int)
    (fun x1201 =>
      k0 x1201)
theorem impl_natPow.ex : ∃ f : ((α : Type) → Nat → List Int → Int → (List Int → Option α) → Option α), f = fun α => @impl_natPow.b α := ⟨_, rfl⟩
noncomputable def impl_natPow {α : Type} : Nat → List Int → Int → (List Int → Option α) → Option α := Classical.choose impl_natPow.ex α
theorem impl_natPow.eq : @impl_natPow = @impl_natPow.b := funext fun α => congrFun (Classical.choose_spec impl_natPow.ex) α

/-- (loop.example/pinfold/impl.Frac).pow -/
noncomputable def impl_Frac_pow.b {α : Type} (N : Nat) (a1061 : Bool × (List Int) × (List Int) × Unit) (a1062 : Int) (k0 : (Bool × (List Int) × (List Int) × Unit) → Option α) : Option α :=
  bif a1061.1 then
    let x1063 := (Int.tmod a1062 (2 : Int))
    let x1064 := (decide (x1063 = (1 : Int)))
    impl_natPow N a1061.2.1 a1062
      (fun x1202 =>
        impl_natPow N a1061.2.2.1 a1062
          (fun x1203 =>
            k0 (x1064, (x1202, (x1203, ())))))
  else
    impl_natPow N a1061.2.1 a1062
      (fun x1204 =>
        impl_natPow N a1061.2.2.1 a1062
          (fun x1205 =>
            k0 (false, (x1204, (x1205, ())))))
theorem impl_Frac_pow.ex : ∃ f : ((α : Type) → Nat → (Bool × (List Int) × (List Int) × Unit) → Int → ((Bool × (List Int) × (List Int) × Unit) → Option α) → Option α), f = fun α => @impl_Frac_pow.b α := ⟨_, rfl⟩
noncomputable def impl_Frac_pow {α : Type} : Nat → (Bool × (List Int) × (List Int) × Unit) → Int → ((Bool × (List Int) × (List Int) × Unit) → Option α) → Option α := Classical.choose impl_Frac_pow.ex α
theorem impl_Frac_pow.eq : @impl_Frac_pow = @impl_Frac_pow.b := funext fun α => congrFun (Classical.choose_spec impl_Frac_pow.ex) α

/-- slices.Clip[[]int,int] -/
noncomputable def slices_Clip_int_int.b {α : Type} (N : Nat) (a1214 : List Int) (k0 : List Int → Option α) : Option α :=
  let x1215 := ((a1214.length : Nat) : Int)
  let x1216 := ((a1214.length : Nat) : Int)
  bif (decide ((0 : Int) ≤ x1216)) then
    bif (decide (x1216 ≤ ((a1214.length : Nat) : Int))) then
      bif (decide ((0 : Int) ≤ x1215)) then
        bif (decide (x1215 ≤ ((x1216.toNat : Nat) : Int))) then
          let x1217 := a1214.take x1215.toNat
          k0 x1217
        else
          none
      else
        none
    else
      none
  else
    none
theorem slices_Clip_int_int.ex : ∃ f : ((α : Type) → Nat → List Int → (List Int → Option α) → Option α), f = fun α => @slices_Clip_int_int.b α := ⟨_, rfl⟩
noncomputable def slices_Clip_int_int {α : Type} : Nat → List Int → (List Int → Option α) → Option α := Classical.choose slices_Clip_int_int.ex α
theorem slices_Clip_int_int.eq : @slices_Clip_int_int = @slices_Clip_int_int.b := funext fun α => congrFun (Classical.choose_spec slices_Clip_int_int.ex) α

/-- loop.example/pinfold/impl.clone[int] -/
noncomputable def impl_clone_int.b {α : Type} (N : Nat) (a1212 : List Int) (k0 : List Int → Option α) : Option α :=
  slices_Clone_int_int N a1212
    (fun x1213 =>
      slices_Clip_int_int N x1213
        (fun x1218 =>
          k0 x1218))
theorem impl_clone_int.ex : ∃ f : ((α : Type) → Nat → List Int → (List Int → Option α) → Option α), f = fun α => @impl_clone_int.b α := ⟨_, rfl⟩
noncomputable def impl_clone_int {α : Type} : Nat → List Int → (List Int → Option α) → Option α := Classical.choose impl_clone_int.ex α
theorem impl_clone_int.eq : @impl_clone_int = @impl_clone_int.b := funext fun α => congrFun (Classical.choose_spec impl_clone_int.ex) α

/-- loop.example/pinfold/impl.given -/
noncomputable def impl_given.b {α : Type} (N : Nat) (a1207 : Bool × (List Int) × (List Int) × Unit) (k0 : Bool → Bool → List Int → List Int → Option α) : Option α :=
  let x1208 := ((a1207.2.1.length : Nat) : Int)
  let x1209 := (decide ((256 : Int) < x1208))
  bif x1209 then
    k0 false false [] []
  else
    let x1210 := ((a1207.2.2.1.length : Nat) : Int)
    let x1211 := (decide ((256 : Int) < x1210))
    bif x1211 then
      k0 false false [] []
    else
      impl_clone_int N a1207.2.1
        (fun x1219 =>
          impl_clone_int N a1207.2.2.1
            (fun x1220 =>
              k0 a1207.1 true x1219 x1220))
theorem impl_given.ex : ∃ f : ((α : Type) → Nat → (Bool × (List Int) × (List Int) × Unit) → (Bool → Bool → List Int → List Int → Option α) → Option α), f = fun α => @impl_given.b α := ⟨_, rfl⟩
noncomputable def impl_given {α : Type} : Nat → (Bool × (List Int) × (List Int) × Unit) → (Bool → Bool → List Int → List Int → Option α) → Option α := Classical.choose impl_given.ex α
theorem impl_given.eq : @impl_given = @impl_given.b := funext fun α => congrFun (Classical.choose_spec impl_given.ex) α

/-- loop.example/pinfold/impl.FracPow -/
noncomputable def impl_FracPow.b {α : Type} (N : Nat) (a452 : Bool × (List Int) × (List Int) × Unit) (a453 : Int) (k0 : Bool → Bool → List Int → List Int → Option α) : Option α :=
  impl_FracOk N a452
    (fun x1057 =>
      let x1058 := !x1057
      bif x1058 then
        k0 false false [] []
      else
        impl_in N a453 (0 : Int) (64 : Int)
          (fun x1059 =>
            let x1060 := !x1059
            bif x1060 then
              k0 false false [] []
            else
              impl_Frac_pow N a452 a453
                (fun x1206 =>
                  impl_given N x1206
                    (fun x1221 x1222 x1223 x1224 =>
                      k0 x1221 x1222 x1223 x1224))))
theorem impl_FracPow.ex : ∃ f : ((α : Type) → Nat → (Bool × (List Int) × (List Int) × Unit) → Int → (Bool → Bool → List Int → List Int → Option α) → Option α), f = fun α => @impl_FracPow.b α := ⟨_, rfl⟩
noncomputable def impl_FracPow {α : Type} : Nat → (Bool × (List Int) × (List Int) × Unit) → Int → (Bool → Bool → List Int → List Int → Option α) → Option α := Classical.choose impl_FracPow.ex α
theorem impl_FracPow.eq : @impl_FracPow = @impl_FracPow.b := funext fun α => congrFun (Classical.choose_spec impl_FracPow.ex) α

noncomputable def laws_eqIntS_L0r {α : Type} (N : Nat) (next : List Int → List Int → Int → Option α) (k0 : Bool → Option α) (k1 : Option α) (v1237 : List Int) (v1238 : List Int) (v1239 : Int) : Option α :=
  let x1240 := ((v1237.length : Nat) : Int)
  let x1241 := decide (v1239 < x1240)
  bif x1241 then
    bif (decide (v1239 < (0 : Int))) then
      none
    else
      match v1237[v1239.toNat]? with
      | some x1242 =>
        bif (decide (v1239 < (0 : Int))) then
          none
        else
          match v1238[v1239.toNat]? with
          | some x1243 =>
            let x1244 := !(decide (x1242 = x1243))
            bif x1244 then
              k0 false
            else
              let x1245 := (IntKind.i64.wrap (v1239 + (1 : Int)))
              next v1237 v1238 x1245
          | none => none
      | none => none
  else
    k1
noncomputable def laws_eqIntS_L0.b {α : Type} (N n : Nat) (v1237 : List Int) (v1238 : List Int) (v1239 : Int) (k0 : Bool → Option α) (k1 : Option α) : Option α :=
  Nat.rec (motive := fun _ => List Int → List Int → Int → Option α) (fun _ _ _ => none) (fun _ next => laws_eqIntS_L0r N next k0 k1) n v1237 v1238 v1239
theorem laws_eqIntS_L0.ex : ∃ f : ((α : Type) → Nat → Nat → List Int → List Int → Int → (Bool → Option α) → (Option α) → Option α), f = fun α => @laws_eqIntS_L0.b α := ⟨_, rfl⟩
noncomputable def laws_eqIntS_L0 {α : Type} : Nat → Nat → List Int → List Int → Int → (Bool → Option α) → (Option α) → Option α := Classical.choose laws_eqIntS_L0.ex α
theorem laws_eqIntS_L0.eq : @laws_eqIntS_L0 = @laws_eqIntS_L0.b := funext fun α => congrFun (Classical.choose_spec laws_eqIntS_L0.ex) α
theorem laws_eqIntS_L0.zero {α : Type} (N : Nat) (v1237 : List Int) (v1238 : List Int) (v1239 : Int) (k0 : Bool → Option α) (k1 : Option α) : laws_eqIntS_L0 N 0 v1237 v1238 v1239 k0 k1 = none := by rw [laws_eqIntS_L0.eq]; rfl
theorem laws_eqIntS_L0.succ {α : Type} (N n : Nat) (v1237 : List Int) (v1238 : List Int) (v1239 : Int) (k0 : Bool → Option α) (k1 : Option α) : laws_eqIntS_L0 N (n + 1) v1237 v1238 v1239 k0 k1 = laws_eqIntS_L0r N (fun y0 y1 y2 => laws_eqIntS_L0 N n y0 y1 y2 k0 k1) k0 k1 v1237 v1238 v1239 := by rw [laws_eqIntS_L0.eq]; rfl
/-- loop.example/pinfold/laws.eqIntS -/
noncomputable def laws_eqIntS.b {α : Type} (N : Nat) (a1232 : List Int) (a1233 : List Int) (k0 : Bool → Option α) : Option α :=
  let x1234 := ((a1232.length : Nat) : Int)
  let x1235 := ((a1233.length : Nat) : Int)
  let x1236 := !(decide (x1234 = x1235))
  bif x1236 then
    k0 false
  else
    laws_eqIntS_L0 N N a1232 a1233 (0 : Int)
      (fun x1246 =>
        k0 x1246)
      (
        k0 true)
theorem laws_eqIntS.ex : ∃ f : ((α : Type) → Nat → List Int → List Int → (Bool → Option α) → Option α), f = fun α => @laws_eqIntS.b α := ⟨_, rfl⟩
noncomputable def laws_eqIntS {α : Type} : Nat → List Int → List Int → (Bool → Option α) → Option α := Classical.choose laws_eqIntS.ex α
theorem laws_eqIntS.eq : @laws_eqIntS = @laws_eqIntS.b := funext fun α => congrFun (Classical.choose_spec laws_eqIntS.ex) α

/-- loop.example/pinfold/laws.eqFrac -/
noncomputable def laws_eqFrac.b {α : Type} (N : Nat) (a1229 : Bool × (List Int) × (List Int) × Unit) (a1230 : Bool × (List Int) × (List Int) × Unit) (k0 : Bool → Option α) : Option α :=
  let x1231 := !(a1229.1 == a1230.1)
  bif x1231 then
    k0 false
  else
    laws_eqIntS N a1229.2.1 a1230.2.1
      (fun x1247 =>
        let x1248 := !x1247
        bif x1248 then
          k0 false
        else
          laws_eqIntS N a1229.2.2.1 a1230.2.2.1
            (fun x1249 =>
              let x1250 := !x1249
              bif x1250 then
                k0 false
              else
                k0 true))
theorem laws_eqFrac.ex : ∃ f : ((α : Type) → Nat → (Bool × (List Int) × (List Int) × Unit) → (Bool × (List Int) × (List Int) × Unit) → (Bool → Option α) → Option α), f = fun α => @laws_eqFrac.b α := ⟨_, rfl⟩
noncomputable def laws_eqFrac {α : Type} : Nat → (Bool × (List Int) × (List Int) × Unit) → (Bool × (List Int) × (List Int) × Unit) → (Bool → Option α) → Option α := Classical.choose laws_eqFrac.ex α
theorem laws_eqFrac.eq : @laws_eqFrac = @laws_eqFrac.b := funext fun α => congrFun (Classical.choose_spec laws_eqFrac.ex) α

noncomputable def laws_markIntS_L0r {α : Type} (N : Nat) (next : Int → Int → List Int → Option α) (k0 : Int → List Int → Option α) (v1265 : Int) (v1266 : Int) (v1267 : List Int) : Option α :=
  let x1268 := ((v1267.length : Nat) : Int)
  let x1269 := decide (v1266 < x1268)
  bif x1269 then
    bif (decide (v1266 < (0 : Int))) then
      none
    else
      bif decide (v1266.toNat < v1267.length) then
        match v1267[v1266.toNat]? with
        | some x1270 =>
          let x1271 := v1267.set v1266.toNat v1265
          let x1272 := (IntKind.i64.wrap (v1265 + (1 : Int)))
          let x1273 := (IntKind.i64.wrap (v1266 + (1 : Int)))
          next x1272 x1273 x1271
        | none => none
      else
        none
  else
    k0 v1265 v1267
noncomputable def laws_markIntS_L0.b {α : Type} (N n : Nat) (v1265 : Int) (v1266 : Int) (v1267 : List Int) (k0 : Int → List Int → Option α) : Option α :=
  Nat.rec (motive := fun _ => Int → Int → List Int → Option α) (fun _ _ _ => none) (fun _ next => laws_markIntS_L0r N next k0) n v1265 v1266 v1267
theorem laws_markIntS_L0.ex : ∃ f : ((α : Type) → Nat → Nat → Int → Int → List Int → (Int → List Int → Option α) → Option α), f = fun α => @laws_markIntS_L0.b α := ⟨_, rfl⟩
noncomputable def laws_markIntS_L0 {α : Type} : Nat → Nat → Int → Int → List Int → (Int → List Int → Option α) → Option α := Classical.choose laws_markIntS_L0.ex α
theorem laws_markIntS_L0.eq : @laws_markIntS_L0 = @laws_markIntS_L0.b := funext fun α => congrFun (Classical.choose_spec laws_markIntS_L0.ex) α
theorem laws_markIntS_L0.zero {α : Type} (N : Nat) (v1265 : Int) (v1266 : Int) (v1267 : List Int) (k0 : Int → List Int → Option α) : laws_markIntS_L0 N 0 v1265 v1266 v1267 k0 = none := by rw [laws_markIntS_L0.eq]; rfl
theorem laws_markIntS_L0.succ {α : Type} (N n : Nat) (v1265 : Int) (v1266 : Int) (v1267 : List Int) (k0 : Int → List Int → Option α) : laws_markIntS_L0 N (n + 1) v1265 v1266 v1267 k0 = laws_markIntS_L0r N (fun y0 y1 y2 => laws_markIntS_L0 N n y0 y1 y2 k0) k0 v1265 v1266 v1267 := by rw [laws_markIntS_L0.eq]; rfl
/-- loop.example/pinfold/laws.markIntS -/
noncomputable def laws_markIntS.b {α : Type} (N : Nat) (a1263 : Int) (a1264 : List Int) (k0 : Int → List Int → Option α) : Option α :=
  laws_markIntS_L0 N N a1263 (0 : Int) a1264
    (fun x1274 x1275 =>
      k0 x1274 x1275)
theorem laws_markIntS.ex : ∃ f : ((α : Type) → Nat → Int → List Int → (Int → List Int → Option α) → Option α), f = fun α => @laws_markIntS.b α := ⟨_, rfl⟩
noncomputable def laws_markIntS {α : Type} : Nat → Int → List Int → (Int → List Int → Option α) → Option α := Classical.choose laws_markIntS.ex α
theorem laws_markIntS.eq : @laws_markIntS = @laws_markIntS.b := funext fun α => congrFun (Classical.choose_spec laws_markIntS.ex) α

/-- loop.example/pinfold/laws.markFrac -/
noncomputable def laws_markFrac.b {α : Type} (N : Nat) (a1259 : Bool) (a1260 : Int) (a1261 : List Int) (a1262 : List Int) (k0 : Int → List Int → List Int → Option α) : Option α :=
  laws_markIntS N a1260 a1261
    (fun x1276 x1277 =>
      laws_markIntS N x1276 a1262
        (fun x1278 x1279 =>
          k0 x1278 x1277 x1279))
theorem laws_markFrac.ex : ∃ f : ((α : Type) → Nat → Bool → Int → List Int → List Int → (Int → List Int → List Int → Option α) → Option α), f = fun α => @laws_markFrac.b α := ⟨_, rfl⟩
noncomputable def laws_markFrac {α : Type} : Nat → Bool → Int → List Int → List Int → (Int → List Int → List Int → Option α) → Option α := Classical.choose laws_markFrac.ex α
theorem laws_markFrac.eq : @laws_markFrac = @laws_markFrac.b := funext fun α => congrFun (Classical.choose_spec laws_markFrac.ex) α

noncomputable def laws_heldIntS_L0r {α : Type} (N : Nat) (next : List Int → Int → Int → Option α) (k0 : Int → Option α) (k1 : Int → Option α) (v1294 : List Int) (v1295 : Int) (v1296 : Int) : Option α :=
  let x1297 := ((v1294.length : Nat) : Int)
  let x1298 := decide (v1296 < x1297)
  bif x1298 then
    bif (decide (v1296 < (0 : Int))) then
      none
    else
      match v1294[v1296.toNat]? with
      | some x1299 =>
        let x1300 := !(decide (x1299 = v1295))
        bif x1300 then
          k0 (-1 : Int)
        else
          let x1301 := (IntKind.i64.wrap (v1295 + (1 : Int)))
          let x1302 := (IntKind.i64.wrap (v1296 + (1 : Int)))
          next v1294 x1301 x1302
      | none => none
  else
    k1 v1295
noncomputable def laws_heldIntS_L0.b {α : Type} (N n : Nat) (v1294 : List Int) (v1295 : Int) (v1296 : Int) (k0 : Int → Option α) (k1 : Int → Option α) : Option α :=
  Nat.rec (motive := fun _ => List Int → Int → Int → Option α) (fun _ _ _ => none) (fun _ next => laws_heldIntS_L0r N next k0 k1) n v1294 v1295 v1296
theorem laws_heldIntS_L0.ex : ∃ f : ((α : Type) → Nat → Nat → List Int → Int → Int → (Int → Option α) → (Int → Option α) → Option α), f = fun α => @laws_heldIntS_L0.b α := ⟨_, rfl⟩
noncomputable def laws_heldIntS_L0 {α : Type} : Nat → Nat → List Int → Int → Int → (Int → Option α) → (Int → Option α) → Option α := Classical.choose laws_heldIntS_L0.ex α
theorem laws_heldIntS_L0.eq : @laws_heldIntS_L0 = @laws_heldIntS_L0.b := funext fun α => congrFun (Classical.choose_spec laws_heldIntS_L0.ex) α
theorem laws_heldIntS_L0.zero {α : Type} (N : Nat) (v1294 : List Int) (v1295 : Int) (v1296 : Int) (k0 : Int → Option α) (k1 : Int → Option α) : laws_heldIntS_L0 N 0 v1294 v1295 v1296 k0 k1 = none := by rw [laws_heldIntS_L0.eq]; rfl
theorem laws_heldIntS_L0.succ {α : Type} (N n : Nat) (v1294 : List Int) (v1295 : Int) (v1296 : Int) (k0 : Int → Option α) (k1 : Int → Option α) : laws_heldIntS_L0 N (n + 1) v1294 v1295 v1296 k0 k1 = laws_heldIntS_L0r N (fun y0 y1 y2 => laws_heldIntS_L0 N n y0 y1 y2 k0 k1) k0 k1 v1294 v1295 v1296 := by rw [laws_heldIntS_L0.eq]; rfl
/-- loop.example/pinfold/laws.heldIntS -/
noncomputable def laws_heldIntS.b {α : Type} (N : Nat) (a1292 : List Int) (a1293 : Int) (k0 : Int → Option α) : Option α :=
  laws_heldIntS_L0 N N a1292 a1293 (0 : Int)
    (fun x1303 =>
      k0 x1303)
    (fun x1304 =>
      k0 x1304)
theorem laws_heldIntS.ex : ∃ f : ((α : Type) → Nat → List Int → Int → (Int → Option α) → Option α), f = fun α => @laws_heldIntS.b α := ⟨_, rfl⟩
noncomputable def laws_heldIntS {α : Type} : Nat → List Int → Int → (Int → Option α) → Option α := Classical.choose laws_heldIntS.ex α
theorem laws_heldIntS.eq : @laws_heldIntS = @laws_heldIntS.b := funext fun α => congrFun (Classical.choose_spec laws_heldIntS.ex) α

/-- loop.example/pinfold/laws.heldFrac -/
noncomputable def laws_heldFrac.b {α : Type} (N : Nat) (a1290 : Bool × (List Int) × (List Int) × Unit) (a1291 : Int) (k0 : Int → Option α) : Option α :=
  laws_heldIntS N a1290.2.1 a1291
    (fun x1305 =>
      let x1306 := (decide (x1305 < (0 : Int)))
      bif x1306 then
        k0 (-1 : Int)
      else
        laws_heldIntS N a1290.2.2.1 x1305
          (fun x1307 =>
            let x1308 := (decide (x1307 < (0 : Int)))
            bif x1308 then
              k0 (-1 : Int)
            else
              k0 x1307))
theorem laws_heldFrac.ex : ∃ f : ((α : Type) → Nat → (Bool × (List Int) × (List Int) × Unit) → Int → (Int → Option α) → Option α), f = fun α => @laws_heldFrac.b α := ⟨_, rfl⟩
noncomputable def laws_heldFrac {α : Type} : Nat → (Bool × (List Int) × (List Int) × Unit) → Int → (Int → Option α) → Option α := Classical.choose laws_heldFrac.ex α
theorem laws_heldFrac.eq : @laws_heldFrac = @laws_heldFrac.b := funext fun α => congrFun (Classical.choose_spec laws_heldFrac.ex) α

/-- loop.example/pinfold/laws.FnExactFracPow -/
noncomputable def laws_FnExactFracPow.b {α : Type} (N : Nat) (a1 : Bool × (List Int) × (List Int) × Unit) (a2 : Int) (k0 : Bool → Option α) : Option α :=
  laws_szFrac N a1 (1048576 : Int)
    (fun x14 =>
      let x15 := (decide (x14 < (0 : Int)))
      bif x15 then
        k0 true
      else
        laws_toFrac N a1
          (fun x32 x33 x34 =>
            spec_FracPow N (x32, (x33, (x34, ()))) a2
              (fun x445 x446 x447 x448 =>
                laws_toFrac N a1
                  (fun x449 x450 x451 =>
                    impl_FracPow N (x449, (x450, (x451, ()))) a2
                      (fun x1225 x1226 x1227 x1228 =>
                        laws_eqFrac N (x1225, (x1227, (x1228, ()))) (x445, (x447, (x448, ())))
                          (fun x1251 =>
                            let x1252 := !x1251
                            bif x1252 then
                              k0 false
                            else
                              let x1253 := !(x1226 == x446)
                              bif x1253 then
                                k0 false
                              else
                                laws_toFrac N a1
                                  (fun x1254 x1255 x1256 =>
                                    laws_eqFrac N (x449, (x450, (x451, ()))) (x1254, (x1255, (x1256, ())))
                                      (fun x1257 =>
                                        let x1258 := !x1257
                                        bif x1258 then
                                          k0 false
                                        else
                                          laws_markFrac N x449 (1 : Int) x450 x451
                                            (fun x1280 _ _ =>
                                              let x1283 := (decide (x1280 < (0 : Int)))
                                              bif x1283 then
                                                k0 false
                                              else
                                                laws_eqFrac N (x1225, (x1227, (x1228, ()))) (x445, (x447, (x448, ())))
                                                  (fun x1284 =>
                                                    let x1285 := !x1284
                                                    bif x1285 then
                                                      k0 false
                                                    else
                                                      let x1286 := !(x1226 == x446)
                                                      bif x1286 then
                                                        k0 false
                                                      else
                                                        laws_markFrac N x1225 (1 : Int) x1227 x1228
                                                          (fun x1287 x1288 x1289 =>
                                                            laws_heldFrac N (x1225, (x1288, (x1289, ()))) (1 : Int)
                                                              (fun x1309 =>
                                                                let x1310 := (decide (x1309 < (0 : Int)))
                                                                bif x1310 then
                                                                  k0 false
                                                                else
                                                                  let x1311 := !(decide (x1309 = x1287))
                                                                  bif x1311 then
                                                                    k0 false
                                                                  else
                                                                    laws_toFrac N a1
                                                                      (fun x1312 x1313 x1314 =>
                                                                        impl_FracPow N (x1312, (x1313, (x1314, ()))) a2
                                                                          (fun x1315 x1316 x1317 x1318 =>
                                                                            laws_eqFrac N (x1315, (x1317, (x1318, ()))) (x445, (x447, (x448, ())))
                                                                              (fun x1319 =>
                                                                                let x1320 := !x1319
                                                                                bif x1320 then
                                                                                  k0 false
                                                                                else
                                                                                  let x1321 := !(x1316 == x446)
                                                                                  bif x1321 then
                                                                                    k0 false
                                                                                  else
                                                                                    laws_heldFrac N (x1225, (x1288, (x1289, ()))) (1 : Int)
                                                                                      (fun x1322 =>
                                                                                        let x1323 := (decide (x1322 < (0 : Int)))
                                                                                        bif x1323 then
                                                                                          k0 false
                                                                                        else
                                                                                          let x1324 := !(decide (x1322 = x1287))
                                                                                          bif x1324 then
                                                                                            k0 false
                                                                                          else
                                                                                            k0 true))))))))))))))))
theorem laws_FnExactFracPow.ex : ∃ f : ((α : Type) → Nat → (Bool × (List Int) × (List Int) × Unit) → Int → (Bool → Option α) → Option α), f = fun α => @laws_FnExactFracPow.b α := ⟨_, rfl⟩
noncomputable def laws_FnExactFracPow {α : Type} : Nat → (Bool × (List Int) × (List Int) × Unit) → Int → (Bool → Option α) → Option α := Classical.choose laws_FnExactFracPow.ex α
theorem laws_FnExactFracPow.eq : @laws_FnExactFracPow = @laws_FnExactFracPow.b := funext fun α => congrFun (Classical.choose_spec laws_FnExactFracPow.ex) α

end
end Go.Proofs.YthjjaddhcdekjaaAm
