/-
  The functions that the program computes, as the abstract machine tells them. Printed by amp.py.
-/
import Derived.Test.YthjjaddhcdekjaaAmb
namespace Go.Proofs.YthjjaddhcdekjaaAm
open Go
noncomputable section
set_option linter.unusedVariables false
set_option linter.unusedSimpArgs false

/-- loop.example/pinfold/laws.szIntS -/
noncomputable def laws_szIntS.b {α : Type} (N : Nat) (a4 : List Int) (a5 : Int) (k0 : Int → Option α) : Option α :=
  let x6 := ((a4.length : Nat) : Int)
  let x7 := IntKind.i64.wrap (a5 - x6)
  let x8 := (decide (x7 < (0 : Int)))
  bif x8 then
    k0 (-1 : Int)
  else
    k0 x7
theorem laws_szIntS.ex : ∃ f : ((α : Type) → Nat → List Int → Int → (Int → Option α) → Option α), f = fun α => @laws_szIntS.b α := ⟨_, rfl⟩
noncomputable def laws_szIntS {α : Type} : Nat → List Int → Int → (Int → Option α) → Option α := Classical.choose laws_szIntS.ex α
theorem laws_szIntS.eq : @laws_szIntS = @laws_szIntS.b := funext fun α => congrFun (Classical.choose_spec laws_szIntS.ex) α

/-- loop.example/pinfold/laws.szFrac -/
noncomputable def laws_szFrac.b {α : Type} (N : Nat) (a2 : Bool × (List Int) × (List Int) × Unit) (a3 : Int) (k0 : Int → Option α) : Option α :=
  laws_szIntS N a2.2.1 a3
    (fun x9 =>
      let x10 := (decide (x9 < (0 : Int)))
      bif x10 then
        k0 (-1 : Int)
      else
        laws_szIntS N a2.2.2.1 x9
          (fun x11 =>
            let x12 := (decide (x11 < (0 : Int)))
            bif x12 then
              k0 (-1 : Int)
            else
              k0 x11))
theorem laws_szFrac.ex : ∃ f : ((α : Type) → Nat → (Bool × (List Int) × (List Int) × Unit) → Int → (Int → Option α) → Option α), f = fun α => @laws_szFrac.b α := ⟨_, rfl⟩
noncomputable def laws_szFrac {α : Type} : Nat → (Bool × (List Int) × (List Int) × Unit) → Int → (Int → Option α) → Option α := Classical.choose laws_szFrac.ex α
theorem laws_szFrac.eq : @laws_szFrac = @laws_szFrac.b := funext fun α => congrFun (Classical.choose_spec laws_szFrac.ex) α

noncomputable def laws_toIntS_L0r {α : Type} (N : Nat) (next : List Int → Int → List Int → Option α) (k0 : List Int → Option α) (v19 : List Int) (v20 : Int) (v21 : List Int) : Option α :=
  let x22 := ((v19.length : Nat) : Int)
  let x23 := decide (v20 < x22)
  bif x23 then
    bif (decide (v20 < (0 : Int))) then
      none
    else
      match v19[v20.toNat]? with
      | some x24 =>
        bif (decide (v20 < (0 : Int))) then
          none
        else
          bif decide (v20.toNat < v21.length) then
            match v21[v20.toNat]? with
            | some x25 =>
              let x26 := v21.set v20.toNat x24
              let x27 := (IntKind.i64.wrap (v20 + (1 : Int)))
              next v19 x27 x26
            | none => none
          else
            none
      | none => none
  else
    k0 v21
noncomputable def laws_toIntS_L0.b {α : Type} (N n : Nat) (v19 : List Int) (v20 : Int) (v21 : List Int) (k0 : List Int → Option α) : Option α :=
  Nat.rec (motive := fun _ => List Int → Int → List Int → Option α) (fun _ _ _ => none) (fun _ next => laws_toIntS_L0r N next k0) n v19 v20 v21
theorem laws_toIntS_L0.ex : ∃ f : ((α : Type) → Nat → Nat → List Int → Int → List Int → (List Int → Option α) → Option α), f = fun α => @laws_toIntS_L0.b α := ⟨_, rfl⟩
noncomputable def laws_toIntS_L0 {α : Type} : Nat → Nat → List Int → Int → List Int → (List Int → Option α) → Option α := Classical.choose laws_toIntS_L0.ex α
theorem laws_toIntS_L0.eq : @laws_toIntS_L0 = @laws_toIntS_L0.b := funext fun α => congrFun (Classical.choose_spec laws_toIntS_L0.ex) α
theorem laws_toIntS_L0.zero {α : Type} (N : Nat) (v19 : List Int) (v20 : Int) (v21 : List Int) (k0 : List Int → Option α) : laws_toIntS_L0 N 0 v19 v20 v21 k0 = none := by rw [laws_toIntS_L0.eq]; rfl
theorem laws_toIntS_L0.succ {α : Type} (N n : Nat) (v19 : List Int) (v20 : Int) (v21 : List Int) (k0 : List Int → Option α) : laws_toIntS_L0 N (n + 1) v19 v20 v21 k0 = laws_toIntS_L0r N (fun y0 y1 y2 => laws_toIntS_L0 N n y0 y1 y2 k0) k0 v19 v20 v21 := by rw [laws_toIntS_L0.eq]; rfl
/-- loop.example/pinfold/laws.toIntS -/
noncomputable def laws_toIntS.b {α : Type} (N : Nat) (a16 : List Int) (k0 : List Int → Option α) : Option α :=
  let x17 := ((a16.length : Nat) : Int)
  bif (decide ((0 : Int) ≤ x17)) then
    bif decide (x17 ≤ x17) then
      bif (decide (x17 ≤ ((8796093022208 : Nat) : Int))) then
        let x18 := (List.replicate x17.toNat (0 : Int))
        laws_toIntS_L0 N N a16 (0 : Int) x18
          (fun x28 =>
            k0 x28)
      else
        none
    else
      none
  else
    none
theorem laws_toIntS.ex : ∃ f : ((α : Type) → Nat → List Int → (List Int → Option α) → Option α), f = fun α => @laws_toIntS.b α := ⟨_, rfl⟩
noncomputable def laws_toIntS {α : Type} : Nat → List Int → (List Int → Option α) → Option α := Classical.choose laws_toIntS.ex α
theorem laws_toIntS.eq : @laws_toIntS = @laws_toIntS.b := funext fun α => congrFun (Classical.choose_spec laws_toIntS.ex) α

/-- loop.example/pinfold/laws.toFrac -/
noncomputable def laws_toFrac.b {α : Type} (N : Nat) (a15 : Bool × (List Int) × (List Int) × Unit) (k0 : Bool → List Int → List Int → Option α) : Option α :=
  laws_toIntS N a15.2.1
    (fun x29 =>
      laws_toIntS N a15.2.2.1
        (fun x30 =>
          k0 a15.1 x29 x30))
theorem laws_toFrac.ex : ∃ f : ((α : Type) → Nat → (Bool × (List Int) × (List Int) × Unit) → (Bool → List Int → List Int → Option α) → Option α), f = fun α => @laws_toFrac.b α := ⟨_, rfl⟩
noncomputable def laws_toFrac {α : Type} : Nat → (Bool × (List Int) × (List Int) × Unit) → (Bool → List Int → List Int → Option α) → Option α := Classical.choose laws_toFrac.ex α
theorem laws_toFrac.eq : @laws_toFrac = @laws_toFrac.b := funext fun α => congrFun (Classical.choose_spec laws_toFrac.ex) α

noncomputable def spec_NatOk_L0r {α : Type} (N : Nat) (next : List Int → Int → Option α) (k0 : Bool → Option α) (k1 : List Int → Option α) (v39 : List Int) (v40 : Int) : Option α :=
  let x41 := ((v39.length : Nat) : Int)
  let x42 := decide (v40 < x41)
  bif x42 then
    bif (decide (v40 < (0 : Int))) then
      none
    else
      match v39[v40.toNat]? with
      | some x43 =>
        let x44 := (decide (x43 < (0 : Int)))
        bif x44 then
          k0 false
        else
          bif (decide (v40 < (0 : Int))) then
            none
          else
            match v39[v40.toNat]? with
            | some x45 =>
              let x46 := (decide ((65536 : Int) ≤ x45))
              bif x46 then
                k0 false
              else
                let x47 := (IntKind.i64.wrap (v40 + (1 : Int)))
                next v39 x47
            | none => none
      | none => none
  else
    k1 v39
noncomputable def spec_NatOk_L0.b {α : Type} (N n : Nat) (v39 : List Int) (v40 : Int) (k0 : Bool → Option α) (k1 : List Int → Option α) : Option α :=
  Nat.rec (motive := fun _ => List Int → Int → Option α) (fun _ _ => none) (fun _ next => spec_NatOk_L0r N next k0 k1) n v39 v40
theorem spec_NatOk_L0.ex : ∃ f : ((α : Type) → Nat → Nat → List Int → Int → (Bool → Option α) → (List Int → Option α) → Option α), f = fun α => @spec_NatOk_L0.b α := ⟨_, rfl⟩
noncomputable def spec_NatOk_L0 {α : Type} : Nat → Nat → List Int → Int → (Bool → Option α) → (List Int → Option α) → Option α := Classical.choose spec_NatOk_L0.ex α
theorem spec_NatOk_L0.eq : @spec_NatOk_L0 = @spec_NatOk_L0.b := funext fun α => congrFun (Classical.choose_spec spec_NatOk_L0.ex) α
theorem spec_NatOk_L0.zero {α : Type} (N : Nat) (v39 : List Int) (v40 : Int) (k0 : Bool → Option α) (k1 : List Int → Option α) : spec_NatOk_L0 N 0 v39 v40 k0 k1 = none := by rw [spec_NatOk_L0.eq]; rfl
theorem spec_NatOk_L0.succ {α : Type} (N n : Nat) (v39 : List Int) (v40 : Int) (k0 : Bool → Option α) (k1 : List Int → Option α) : spec_NatOk_L0 N (n + 1) v39 v40 k0 k1 = spec_NatOk_L0r N (fun y0 y1 => spec_NatOk_L0 N n y0 y1 k0 k1) k0 k1 v39 v40 := by rw [spec_NatOk_L0.eq]; rfl
/-- loop.example/pinfold/spec.NatOk -/
noncomputable def spec_NatOk.b {α : Type} (N : Nat) (a36 : List Int) (k0 : Bool → Option α) : Option α :=
  let x37 := ((a36.length : Nat) : Int)
  let x38 := (decide ((256 : Int) < x37))
  bif x38 then
    k0 false
  else
    spec_NatOk_L0 N N a36 (0 : Int)
      (fun x48 =>
        k0 x48)
      (fun x49 =>
        let x50 := ((x49.length : Nat) : Int)
        let x51 := (decide (x50 = (0 : Int)))
        bif x51 then
          k0 true
        else
          let x52 := ((x49.length : Nat) : Int)
          let x53 := (IntKind.i64.wrap (x52 - (1 : Int)))
          bif (decide (x53 < (0 : Int))) then
            none
          else
            match x49[x53.toNat]? with
            | some x54 =>
              let x55 := (!(decide (x54 = (0 : Int))))
              k0 x55
            | none => none)
theorem spec_NatOk.ex : ∃ f : ((α : Type) → Nat → List Int → (Bool → Option α) → Option α), f = fun α => @spec_NatOk.b α := ⟨_, rfl⟩
noncomputable def spec_NatOk {α : Type} : Nat → List Int → (Bool → Option α) → Option α := Classical.choose spec_NatOk.ex α
theorem spec_NatOk.eq : @spec_NatOk = @spec_NatOk.b := funext fun α => congrFun (Classical.choose_spec spec_NatOk.ex) α

noncomputable def spec_l5Trim_L0r {α : Type} (N : Nat) (next : List Int → Int → Option α) (k0 : List Int → Int → Option α) (v68 : List Int) (v69 : Int) : Option α :=
  let x70 := (decide ((0 : Int) < v69))
  bif x70 then
    let x71 := (IntKind.i64.wrap (v69 - (1 : Int)))
    bif (decide (x71 < (0 : Int))) then
      none
    else
      match v68[x71.toNat]? with
      | some x72 =>
        let x73 := (decide (x72 = (0 : Int)))
        bif x73 then
          let x74 := (IntKind.i64.wrap (v69 - (1 : Int)))
          next v68 x74
        else
          k0 v68 v69
      | none => none
  else
    k0 v68 v69
noncomputable def spec_l5Trim_L0.b {α : Type} (N n : Nat) (v68 : List Int) (v69 : Int) (k0 : List Int → Int → Option α) : Option α :=
  Nat.rec (motive := fun _ => List Int → Int → Option α) (fun _ _ => none) (fun _ next => spec_l5Trim_L0r N next k0) n v68 v69
theorem spec_l5Trim_L0.ex : ∃ f : ((α : Type) → Nat → Nat → List Int → Int → (List Int → Int → Option α) → Option α), f = fun α => @spec_l5Trim_L0.b α := ⟨_, rfl⟩
noncomputable def spec_l5Trim_L0 {α : Type} : Nat → Nat → List Int → Int → (List Int → Int → Option α) → Option α := Classical.choose spec_l5Trim_L0.ex α
theorem spec_l5Trim_L0.eq : @spec_l5Trim_L0 = @spec_l5Trim_L0.b := funext fun α => congrFun (Classical.choose_spec spec_l5Trim_L0.ex) α
theorem spec_l5Trim_L0.zero {α : Type} (N : Nat) (v68 : List Int) (v69 : Int) (k0 : List Int → Int → Option α) : spec_l5Trim_L0 N 0 v68 v69 k0 = none := by rw [spec_l5Trim_L0.eq]; rfl
theorem spec_l5Trim_L0.succ {α : Type} (N n : Nat) (v68 : List Int) (v69 : Int) (k0 : List Int → Int → Option α) : spec_l5Trim_L0 N (n + 1) v68 v69 k0 = spec_l5Trim_L0r N (fun y0 y1 => spec_l5Trim_L0 N n y0 y1 k0) k0 v68 v69 := by rw [spec_l5Trim_L0.eq]; rfl
noncomputable def spec_l5Trim_L2r {α : Type} (N : Nat) (next : List Int → Int → Int → List Int → Option α) (k0 : List Int → Option α) (v77 : List Int) (v78 : Int) (v79 : Int) (v80 : List Int) : Option α :=
  let x81 := decide (v79 < v78)
  bif x81 then
    bif (decide (v79 < (0 : Int))) then
      none
    else
      match v77[v79.toNat]? with
      | some x82 =>
        let x83 := [x82]
        bif decide (v80.length + x83.length ≤ 8796093022208) then
          let x84 := v80 ++ x83
          let x85 := (IntKind.i64.wrap (v79 + (1 : Int)))
          next v77 v78 x85 x84
        else
          none
      | none => none
  else
    k0 v80
noncomputable def spec_l5Trim_L2.b {α : Type} (N n : Nat) (v77 : List Int) (v78 : Int) (v79 : Int) (v80 : List Int) (k0 : List Int → Option α) : Option α :=
  Nat.rec (motive := fun _ => List Int → Int → Int → List Int → Option α) (fun _ _ _ _ => none) (fun _ next => spec_l5Trim_L2r N next k0) n v77 v78 v79 v80
theorem spec_l5Trim_L2.ex : ∃ f : ((α : Type) → Nat → Nat → List Int → Int → Int → List Int → (List Int → Option α) → Option α), f = fun α => @spec_l5Trim_L2.b α := ⟨_, rfl⟩
noncomputable def spec_l5Trim_L2 {α : Type} : Nat → Nat → List Int → Int → Int → List Int → (List Int → Option α) → Option α := Classical.choose spec_l5Trim_L2.ex α
theorem spec_l5Trim_L2.eq : @spec_l5Trim_L2 = @spec_l5Trim_L2.b := funext fun α => congrFun (Classical.choose_spec spec_l5Trim_L2.ex) α
theorem spec_l5Trim_L2.zero {α : Type} (N : Nat) (v77 : List Int) (v78 : Int) (v79 : Int) (v80 : List Int) (k0 : List Int → Option α) : spec_l5Trim_L2 N 0 v77 v78 v79 v80 k0 = none := by rw [spec_l5Trim_L2.eq]; rfl
theorem spec_l5Trim_L2.succ {α : Type} (N n : Nat) (v77 : List Int) (v78 : Int) (v79 : Int) (v80 : List Int) (k0 : List Int → Option α) : spec_l5Trim_L2 N (n + 1) v77 v78 v79 v80 k0 = spec_l5Trim_L2r N (fun y0 y1 y2 y3 => spec_l5Trim_L2 N n y0 y1 y2 y3 k0) k0 v77 v78 v79 v80 := by rw [spec_l5Trim_L2.eq]; rfl
/-- loop.example/pinfold/spec.l5Trim -/
noncomputable def spec_l5Trim.b {α : Type} (N : Nat) (a66 : List Int) (k0 : List Int → Option α) : Option α :=
  let x67 := ((a66.length : Nat) : Int)
  spec_l5Trim_L0 N N a66 x67
    (fun x75 x76 =>
      spec_l5Trim_L2 N N x75 x76 (0 : Int) []
        (fun x86 =>
          k0 x86))
theorem spec_l5Trim.ex : ∃ f : ((α : Type) → Nat → List Int → (List Int → Option α) → Option α), f = fun α => @spec_l5Trim.b α := ⟨_, rfl⟩
noncomputable def spec_l5Trim {α : Type} : Nat → List Int → (List Int → Option α) → Option α := Classical.choose spec_l5Trim.ex α
theorem spec_l5Trim.eq : @spec_l5Trim = @spec_l5Trim.b := funext fun α => congrFun (Classical.choose_spec spec_l5Trim.ex) α

noncomputable def spec_l5Cmp_L0r {α : Type} (N : Nat) (next : List Int → List Int → Int → Option α) (k0 : Int → Option α) (k1 : Option α) (v105 : List Int) (v106 : List Int) (v107 : Int) : Option α :=
  let x108 := (decide ((0 : Int) ≤ v107))
  bif x108 then
    bif (decide (v107 < (0 : Int))) then
      none
    else
      match v105[v107.toNat]? with
      | some x109 =>
        bif (decide (v107 < (0 : Int))) then
          none
        else
          match v106[v107.toNat]? with
          | some x110 =>
            let x111 := decide (x109 < x110)
            bif x111 then
              k0 (-1 : Int)
            else
              bif (decide (v107 < (0 : Int))) then
                none
              else
                match v105[v107.toNat]? with
                | some x112 =>
                  bif (decide (v107 < (0 : Int))) then
                    none
                  else
                    match v106[v107.toNat]? with
                    | some x113 =>
                      let x114 := decide (x113 < x112)
                      bif x114 then
                        k0 (1 : Int)
                      else
                        let x115 := (IntKind.i64.wrap (v107 - (1 : Int)))
                        next v105 v106 x115
                    | none => none
                | none => none
          | none => none
      | none => none
  else
    k1
noncomputable def spec_l5Cmp_L0.b {α : Type} (N n : Nat) (v105 : List Int) (v106 : List Int) (v107 : Int) (k0 : Int → Option α) (k1 : Option α) : Option α :=
  Nat.rec (motive := fun _ => List Int → List Int → Int → Option α) (fun _ _ _ => none) (fun _ next => spec_l5Cmp_L0r N next k0 k1) n v105 v106 v107
theorem spec_l5Cmp_L0.ex : ∃ f : ((α : Type) → Nat → Nat → List Int → List Int → Int → (Int → Option α) → (Option α) → Option α), f = fun α => @spec_l5Cmp_L0.b α := ⟨_, rfl⟩
noncomputable def spec_l5Cmp_L0 {α : Type} : Nat → Nat → List Int → List Int → Int → (Int → Option α) → (Option α) → Option α := Classical.choose spec_l5Cmp_L0.ex α
theorem spec_l5Cmp_L0.eq : @spec_l5Cmp_L0 = @spec_l5Cmp_L0.b := funext fun α => congrFun (Classical.choose_spec spec_l5Cmp_L0.ex) α
theorem spec_l5Cmp_L0.zero {α : Type} (N : Nat) (v105 : List Int) (v106 : List Int) (v107 : Int) (k0 : Int → Option α) (k1 : Option α) : spec_l5Cmp_L0 N 0 v105 v106 v107 k0 k1 = none := by rw [spec_l5Cmp_L0.eq]; rfl
theorem spec_l5Cmp_L0.succ {α : Type} (N n : Nat) (v105 : List Int) (v106 : List Int) (v107 : Int) (k0 : Int → Option α) (k1 : Option α) : spec_l5Cmp_L0 N (n + 1) v105 v106 v107 k0 k1 = spec_l5Cmp_L0r N (fun y0 y1 y2 => spec_l5Cmp_L0 N n y0 y1 y2 k0 k1) k0 k1 v105 v106 v107 := by rw [spec_l5Cmp_L0.eq]; rfl
/-- loop.example/pinfold/spec.l5Cmp -/
noncomputable def spec_l5Cmp.b {α : Type} (N : Nat) (a95 : List Int) (a96 : List Int) (k0 : Int → Option α) : Option α :=
  let x97 := ((a95.length : Nat) : Int)
  let x98 := ((a96.length : Nat) : Int)
  let x99 := decide (x97 < x98)
  bif x99 then
    k0 (-1 : Int)
  else
    let x100 := ((a95.length : Nat) : Int)
    let x101 := ((a96.length : Nat) : Int)
    let x102 := decide (x101 < x100)
    bif x102 then
      k0 (1 : Int)
    else
      let x103 := ((a95.length : Nat) : Int)
      let x104 := (IntKind.i64.wrap (x103 - (1 : Int)))
      spec_l5Cmp_L0 N N a95 a96 x104
        (fun x116 =>
          k0 x116)
        (
          k0 (0 : Int))
theorem spec_l5Cmp.ex : ∃ f : ((α : Type) → Nat → List Int → List Int → (Int → Option α) → Option α), f = fun α => @spec_l5Cmp.b α := ⟨_, rfl⟩
noncomputable def spec_l5Cmp {α : Type} : Nat → List Int → List Int → (Int → Option α) → Option α := Classical.choose spec_l5Cmp.ex α
theorem spec_l5Cmp.eq : @spec_l5Cmp = @spec_l5Cmp.b := funext fun α => congrFun (Classical.choose_spec spec_l5Cmp.ex) α

noncomputable def spec_l5DivSmall_L0r {α : Type} (N : Nat) (next : List Int → Int → Int → Int → List Int → Option α) (k0 : Int → List Int → Option α) (v129 : List Int) (v130 : Int) (v131 : Int) (v132 : Int) (v133 : List Int) : Option α :=
  let x134 := (decide ((0 : Int) ≤ v132))
  bif x134 then
    let x135 := (IntKind.i64.wrap (v131 * (65536 : Int)))
    bif (decide (v132 < (0 : Int))) then
      none
    else
      match v129[v132.toNat]? with
      | some x136 =>
        let x137 := IntKind.i64.wrap (x135 + x136)
        bif (decide (v130 = (0 : Int))) then
          none
        else
          let x138 := IntKind.i64.wrap (Int.tdiv x137 v130)
          bif (decide (v132 < (0 : Int))) then
            none
          else
            bif decide (v132.toNat < v133.length) then
              match v133[v132.toNat]? with
              | some x139 =>
                let x140 := v133.set v132.toNat x138
                bif (decide (v130 = (0 : Int))) then
                  none
                else
                  let x141 := Int.tmod x137 v130
                  let x142 := (IntKind.i64.wrap (v132 - (1 : Int)))
                  next v129 v130 x141 x142 x140
              | none => none
            else
              none
      | none => none
  else
    k0 v131 v133
noncomputable def spec_l5DivSmall_L0.b {α : Type} (N n : Nat) (v129 : List Int) (v130 : Int) (v131 : Int) (v132 : Int) (v133 : List Int) (k0 : Int → List Int → Option α) : Option α :=
  Nat.rec (motive := fun _ => List Int → Int → Int → Int → List Int → Option α) (fun _ _ _ _ _ => none) (fun _ next => spec_l5DivSmall_L0r N next k0) n v129 v130 v131 v132 v133
theorem spec_l5DivSmall_L0.ex : ∃ f : ((α : Type) → Nat → Nat → List Int → Int → Int → Int → List Int → (Int → List Int → Option α) → Option α), f = fun α => @spec_l5DivSmall_L0.b α := ⟨_, rfl⟩
noncomputable def spec_l5DivSmall_L0 {α : Type} : Nat → Nat → List Int → Int → Int → Int → List Int → (Int → List Int → Option α) → Option α := Classical.choose spec_l5DivSmall_L0.ex α
theorem spec_l5DivSmall_L0.eq : @spec_l5DivSmall_L0 = @spec_l5DivSmall_L0.b := funext fun α => congrFun (Classical.choose_spec spec_l5DivSmall_L0.ex) α
theorem spec_l5DivSmall_L0.zero {α : Type} (N : Nat) (v129 : List Int) (v130 : Int) (v131 : Int) (v132 : Int) (v133 : List Int) (k0 : Int → List Int → Option α) : spec_l5DivSmall_L0 N 0 v129 v130 v131 v132 v133 k0 = none := by rw [spec_l5DivSmall_L0.eq]; rfl
theorem spec_l5DivSmall_L0.succ {α : Type} (N n : Nat) (v129 : List Int) (v130 : Int) (v131 : Int) (v132 : Int) (v133 : List Int) (k0 : Int → List Int → Option α) : spec_l5DivSmall_L0 N (n + 1) v129 v130 v131 v132 v133 k0 = spec_l5DivSmall_L0r N (fun y0 y1 y2 y3 y4 => spec_l5DivSmall_L0 N n y0 y1 y2 y3 y4 k0) k0 v129 v130 v131 v132 v133 := by rw [spec_l5DivSmall_L0.eq]; rfl
/-- loop.example/pinfold/spec.l5DivSmall -/
noncomputable def spec_l5DivSmall.b {α : Type} (N : Nat) (a123 : List Int) (a124 : Int) (k0 : Int → List Int → Option α) : Option α :=
  let x125 := ((a123.length : Nat) : Int)
  bif (decide ((0 : Int) ≤ x125)) then
    bif decide (x125 ≤ x125) then
      bif (decide (x125 ≤ ((8796093022208 : Nat) : Int))) then
        let x126 := (List.replicate x125.toNat (0 : Int))
        let x127 := ((a123.length : Nat) : Int)
        let x128 := (IntKind.i64.wrap (x127 - (1 : Int)))
        spec_l5DivSmall_L0 N N a123 a124 (0 : Int) x128 x126
          (fun x143 x144 =>
            spec_l5Trim N x144
              (fun x145 =>
                k0 x143 x145))
      else
        none
    else
      none
  else
    none
theorem spec_l5DivSmall.ex : ∃ f : ((α : Type) → Nat → List Int → Int → (Int → List Int → Option α) → Option α), f = fun α => @spec_l5DivSmall.b α := ⟨_, rfl⟩
noncomputable def spec_l5DivSmall {α : Type} : Nat → List Int → Int → (Int → List Int → Option α) → Option α := Classical.choose spec_l5DivSmall.ex α
theorem spec_l5DivSmall.eq : @spec_l5DivSmall = @spec_l5DivSmall.b := funext fun α => congrFun (Classical.choose_spec spec_l5DivSmall.ex) α

noncomputable def spec_NatOf_L0r {α : Type} (N : Nat) (next : Int → List Int → Option α) (k0 : List Int → Option α) (v150 : Int) (v151 : List Int) : Option α :=
  let x152 := (decide ((0 : Int) < v150))
  bif x152 then
    let x153 := (Int.tmod v150 (65536 : Int))
    let x154 := IntKind.i64.wrap x153
    let x155 := [x154]
    bif decide (v151.length + x155.length ≤ 8796093022208) then
      let x156 := v151 ++ x155
      let x157 := (IntKind.u64.wrap (Int.tdiv v150 (65536 : Int)))
      next x157 x156
    else
      none
  else
    k0 v151
noncomputable def spec_NatOf_L0.b {α : Type} (N n : Nat) (v150 : Int) (v151 : List Int) (k0 : List Int → Option α) : Option α :=
  Nat.rec (motive := fun _ => Int → List Int → Option α) (fun _ _ => none) (fun _ next => spec_NatOf_L0r N next k0) n v150 v151
theorem spec_NatOf_L0.ex : ∃ f : ((α : Type) → Nat → Nat → Int → List Int → (List Int → Option α) → Option α), f = fun α => @spec_NatOf_L0.b α := ⟨_, rfl⟩
noncomputable def spec_NatOf_L0 {α : Type} : Nat → Nat → Int → List Int → (List Int → Option α) → Option α := Classical.choose spec_NatOf_L0.ex α
theorem spec_NatOf_L0.eq : @spec_NatOf_L0 = @spec_NatOf_L0.b := funext fun α => congrFun (Classical.choose_spec spec_NatOf_L0.ex) α
theorem spec_NatOf_L0.zero {α : Type} (N : Nat) (v150 : Int) (v151 : List Int) (k0 : List Int → Option α) : spec_NatOf_L0 N 0 v150 v151 k0 = none := by rw [spec_NatOf_L0.eq]; rfl
theorem spec_NatOf_L0.succ {α : Type} (N n : Nat) (v150 : Int) (v151 : List Int) (k0 : List Int → Option α) : spec_NatOf_L0 N (n + 1) v150 v151 k0 = spec_NatOf_L0r N (fun y0 y1 => spec_NatOf_L0 N n y0 y1 k0) k0 v150 v151 := by rw [spec_NatOf_L0.eq]; rfl
/-- loop.example/pinfold/spec.NatOf -/
noncomputable def spec_NatOf.b {α : Type} (N : Nat) (a149 : Int) (k0 : List Int → Option α) : Option α :=
  spec_NatOf_L0 N N a149 []
    (fun x158 =>
      k0 x158)
theorem spec_NatOf.ex : ∃ f : ((α : Type) → Nat → Int → (List Int → Option α) → Option α), f = fun α => @spec_NatOf.b α := ⟨_, rfl⟩
noncomputable def spec_NatOf {α : Type} : Nat → Int → (List Int → Option α) → Option α := Classical.choose spec_NatOf.ex α
theorem spec_NatOf.eq : @spec_NatOf = @spec_NatOf.b := funext fun α => congrFun (Classical.choose_spec spec_NatOf.ex) α

noncomputable def spec_l5Mul_L2r {α : Type} (N : Nat) (next : List Int → List Int → Int → Int → Int → List Int → Option α) (k0 : List Int → List Int → Int → Int → List Int → Option α) (v181 : List Int) (v182 : List Int) (v183 : Int) (v184 : Int) (v185 : Int) (v186 : List Int) : Option α :=
  let x187 := ((v182.length : Nat) : Int)
  let x188 := decide (v185 < x187)
  bif x188 then
    let x189 := IntKind.i64.wrap (v183 + v185)
    bif (decide (x189 < (0 : Int))) then
      none
    else
      bif decide (x189.toNat < v186.length) then
        match v186[x189.toNat]? with
        | some x190 =>
          bif (decide (v183 < (0 : Int))) then
            none
          else
            match v181[v183.toNat]? with
            | some x191 =>
              bif (decide (v185 < (0 : Int))) then
                none
              else
                match v182[v185.toNat]? with
                | some x192 =>
                  let x193 := IntKind.i64.wrap (x191 * x192)
                  let x194 := IntKind.i64.wrap (x190 + x193)
                  let x195 := IntKind.i64.wrap (x194 + v184)
                  let x196 := IntKind.i64.wrap (v183 + v185)
                  let x197 := (Int.tmod x195 (65536 : Int))
                  bif (decide (x196 < (0 : Int))) then
                    none
                  else
                    bif decide (x196.toNat < v186.length) then
                      match v186[x196.toNat]? with
                      | some x198 =>
                        let x199 := v186.set x196.toNat x197
                        let x200 := (IntKind.i64.wrap (Int.tdiv x195 (65536 : Int)))
                        let x201 := (IntKind.i64.wrap (v185 + (1 : Int)))
                        next v181 v182 v183 x200 x201 x199
                      | none => none
                    else
                      none
                | none => none
            | none => none
        | none => none
      else
        none
  else
    k0 v181 v182 v183 v184 v186
noncomputable def spec_l5Mul_L2.b {α : Type} (N n : Nat) (v181 : List Int) (v182 : List Int) (v183 : Int) (v184 : Int) (v185 : Int) (v186 : List Int) (k0 : List Int → List Int → Int → Int → List Int → Option α) : Option α :=
  Nat.rec (motive := fun _ => List Int → List Int → Int → Int → Int → List Int → Option α) (fun _ _ _ _ _ _ => none) (fun _ next => spec_l5Mul_L2r N next k0) n v181 v182 v183 v184 v185 v186
theorem spec_l5Mul_L2.ex : ∃ f : ((α : Type) → Nat → Nat → List Int → List Int → Int → Int → Int → List Int → (List Int → List Int → Int → Int → List Int → Option α) → Option α), f = fun α => @spec_l5Mul_L2.b α := ⟨_, rfl⟩
noncomputable def spec_l5Mul_L2 {α : Type} : Nat → Nat → List Int → List Int → Int → Int → Int → List Int → (List Int → List Int → Int → Int → List Int → Option α) → Option α := Classical.choose spec_l5Mul_L2.ex α
theorem spec_l5Mul_L2.eq : @spec_l5Mul_L2 = @spec_l5Mul_L2.b := funext fun α => congrFun (Classical.choose_spec spec_l5Mul_L2.ex) α
theorem spec_l5Mul_L2.zero {α : Type} (N : Nat) (v181 : List Int) (v182 : List Int) (v183 : Int) (v184 : Int) (v185 : Int) (v186 : List Int) (k0 : List Int → List Int → Int → Int → List Int → Option α) : spec_l5Mul_L2 N 0 v181 v182 v183 v184 v185 v186 k0 = none := by rw [spec_l5Mul_L2.eq]; rfl
theorem spec_l5Mul_L2.succ {α : Type} (N n : Nat) (v181 : List Int) (v182 : List Int) (v183 : Int) (v184 : Int) (v185 : Int) (v186 : List Int) (k0 : List Int → List Int → Int → Int → List Int → Option α) : spec_l5Mul_L2 N (n + 1) v181 v182 v183 v184 v185 v186 k0 = spec_l5Mul_L2r N (fun y0 y1 y2 y3 y4 y5 => spec_l5Mul_L2 N n y0 y1 y2 y3 y4 y5 k0) k0 v181 v182 v183 v184 v185 v186 := by rw [spec_l5Mul_L2.eq]; rfl
noncomputable def spec_l5Mul_L0r {α : Type} (N : Nat) (next : List Int → List Int → Int → List Int → Option α) (k0 : List Int → Option α) (v175 : List Int) (v176 : List Int) (v177 : Int) (v178 : List Int) : Option α :=
  let x179 := ((v175.length : Nat) : Int)
  let x180 := decide (v177 < x179)
  bif x180 then
    spec_l5Mul_L2 N N v175 v176 v177 (0 : Int) (0 : Int) v178
      (fun x202 x203 x204 x205 x206 =>
        let x207 := ((x203.length : Nat) : Int)
        let x208 := IntKind.i64.wrap (x204 + x207)
        bif (decide (x208 < (0 : Int))) then
          none
        else
          bif decide (x208.toNat < x206.length) then
            match x206[x208.toNat]? with
            | some x209 =>
              let x210 := x206.set x208.toNat x205
              let x211 := (IntKind.i64.wrap (x204 + (1 : Int)))
              next x202 x203 x211 x210
            | none => none
          else
            none)
  else
    k0 v178
noncomputable def spec_l5Mul_L0.b {α : Type} (N n : Nat) (v175 : List Int) (v176 : List Int) (v177 : Int) (v178 : List Int) (k0 : List Int → Option α) : Option α :=
  Nat.rec (motive := fun _ => List Int → List Int → Int → List Int → Option α) (fun _ _ _ _ => none) (fun _ next => spec_l5Mul_L0r N next k0) n v175 v176 v177 v178
theorem spec_l5Mul_L0.ex : ∃ f : ((α : Type) → Nat → Nat → List Int → List Int → Int → List Int → (List Int → Option α) → Option α), f = fun α => @spec_l5Mul_L0.b α := ⟨_, rfl⟩
noncomputable def spec_l5Mul_L0 {α : Type} : Nat → Nat → List Int → List Int → Int → List Int → (List Int → Option α) → Option α := Classical.choose spec_l5Mul_L0.ex α
theorem spec_l5Mul_L0.eq : @spec_l5Mul_L0 = @spec_l5Mul_L0.b := funext fun α => congrFun (Classical.choose_spec spec_l5Mul_L0.ex) α
theorem spec_l5Mul_L0.zero {α : Type} (N : Nat) (v175 : List Int) (v176 : List Int) (v177 : Int) (v178 : List Int) (k0 : List Int → Option α) : spec_l5Mul_L0 N 0 v175 v176 v177 v178 k0 = none := by rw [spec_l5Mul_L0.eq]; rfl
theorem spec_l5Mul_L0.succ {α : Type} (N n : Nat) (v175 : List Int) (v176 : List Int) (v177 : Int) (v178 : List Int) (k0 : List Int → Option α) : spec_l5Mul_L0 N (n + 1) v175 v176 v177 v178 k0 = spec_l5Mul_L0r N (fun y0 y1 y2 y3 => spec_l5Mul_L0 N n y0 y1 y2 y3 k0) k0 v175 v176 v177 v178 := by rw [spec_l5Mul_L0.eq]; rfl
/-- loop.example/pinfold/spec.l5Mul -/
noncomputable def spec_l5Mul.b {α : Type} (N : Nat) (a169 : List Int) (a170 : List Int) (k0 : List Int → Option α) : Option α :=
  let x171 := ((a169.length : Nat) : Int)
  let x172 := ((a170.length : Nat) : Int)
  let x173 := IntKind.i64.wrap (x171 + x172)
  bif (decide ((0 : Int) ≤ x173)) then
    bif decide (x173 ≤ x173) then
      bif (decide (x173 ≤ ((8796093022208 : Nat) : Int))) then
        let x174 := (List.replicate x173.toNat (0 : Int))
        spec_l5Mul_L0 N N a169 a170 (0 : Int) x174
          (fun x212 =>
            spec_l5Trim N x212
              (fun x213 =>
                k0 x213))
      else
        none
    else
      none
  else
    none
theorem spec_l5Mul.ex : ∃ f : ((α : Type) → Nat → List Int → List Int → (List Int → Option α) → Option α), f = fun α => @spec_l5Mul.b α := ⟨_, rfl⟩
noncomputable def spec_l5Mul {α : Type} : Nat → List Int → List Int → (List Int → Option α) → Option α := Classical.choose spec_l5Mul.ex α
theorem spec_l5Mul.eq : @spec_l5Mul = @spec_l5Mul.b := funext fun α => congrFun (Classical.choose_spec spec_l5Mul.ex) α

/-- loop.example/pinfold/spec.l5Times -/
noncomputable def spec_l5Times.b {α : Type} (N : Nat) (a165 : List Int) (a166 : Int) (k0 : List Int → Option α) : Option α :=
  let x167 := (decide (a166 = (0 : Int)))
  bif x167 then
    k0 []
  else
    let x168 := [a166]
    spec_l5Mul N a165 x168
      (fun x214 =>
        k0 x214)
theorem spec_l5Times.ex : ∃ f : ((α : Type) → Nat → List Int → Int → (List Int → Option α) → Option α), f = fun α => @spec_l5Times.b α := ⟨_, rfl⟩
noncomputable def spec_l5Times {α : Type} : Nat → List Int → Int → (List Int → Option α) → Option α := Classical.choose spec_l5Times.ex α
theorem spec_l5Times.eq : @spec_l5Times = @spec_l5Times.b := funext fun α => congrFun (Classical.choose_spec spec_l5Times.ex) α

noncomputable def spec_l5Top_L0r {α : Type} (N : Nat) (next : List Int → Int → List Int → Option α) (k0 : List Int → Option α) (v227 : List Int) (v228 : Int) (v229 : List Int) : Option α :=
  let x230 := ((v227.length : Nat) : Int)
  let x231 := decide (v228 < x230)
  bif x231 then
    bif (decide (v228 < (0 : Int))) then
      none
    else
      match v227[v228.toNat]? with
      | some x232 =>
        let x233 := [x232]
        bif decide (v229.length + x233.length ≤ 8796093022208) then
          let x234 := v229 ++ x233
          let x235 := (IntKind.i64.wrap (v228 + (1 : Int)))
          next v227 x235 x234
        else
          none
      | none => none
  else
    k0 v229
noncomputable def spec_l5Top_L0.b {α : Type} (N n : Nat) (v227 : List Int) (v228 : Int) (v229 : List Int) (k0 : List Int → Option α) : Option α :=
  Nat.rec (motive := fun _ => List Int → Int → List Int → Option α) (fun _ _ _ => none) (fun _ next => spec_l5Top_L0r N next k0) n v227 v228 v229
theorem spec_l5Top_L0.ex : ∃ f : ((α : Type) → Nat → Nat → List Int → Int → List Int → (List Int → Option α) → Option α), f = fun α => @spec_l5Top_L0.b α := ⟨_, rfl⟩
noncomputable def spec_l5Top_L0 {α : Type} : Nat → Nat → List Int → Int → List Int → (List Int → Option α) → Option α := Classical.choose spec_l5Top_L0.ex α
theorem spec_l5Top_L0.eq : @spec_l5Top_L0 = @spec_l5Top_L0.b := funext fun α => congrFun (Classical.choose_spec spec_l5Top_L0.ex) α
theorem spec_l5Top_L0.zero {α : Type} (N : Nat) (v227 : List Int) (v228 : Int) (v229 : List Int) (k0 : List Int → Option α) : spec_l5Top_L0 N 0 v227 v228 v229 k0 = none := by rw [spec_l5Top_L0.eq]; rfl
theorem spec_l5Top_L0.succ {α : Type} (N n : Nat) (v227 : List Int) (v228 : Int) (v229 : List Int) (k0 : List Int → Option α) : spec_l5Top_L0 N (n + 1) v227 v228 v229 k0 = spec_l5Top_L0r N (fun y0 y1 y2 => spec_l5Top_L0 N n y0 y1 y2 k0) k0 v227 v228 v229 := by rw [spec_l5Top_L0.eq]; rfl
/-- loop.example/pinfold/spec.l5Top -/
noncomputable def spec_l5Top.b {α : Type} (N : Nat) (a225 : List Int) (a226 : Int) (k0 : List Int → Option α) : Option α :=
  spec_l5Top_L0 N N a225 a226 []
    (fun x236 =>
      k0 x236)
theorem spec_l5Top.ex : ∃ f : ((α : Type) → Nat → List Int → Int → (List Int → Option α) → Option α), f = fun α => @spec_l5Top.b α := ⟨_, rfl⟩
noncomputable def spec_l5Top {α : Type} : Nat → List Int → Int → (List Int → Option α) → Option α := Classical.choose spec_l5Top.ex α
theorem spec_l5Top.eq : @spec_l5Top = @spec_l5Top.b := funext fun α => congrFun (Classical.choose_spec spec_l5Top.ex) α

noncomputable def spec_l5Shl_L0r {α : Type} (N : Nat) (next : List Int → Int → List Int → Option α) (k0 : List Int → Option α) (v253 : List Int) (v254 : Int) (v255 : List Int) : Option α :=
  let x256 := ((v253.length : Nat) : Int)
  let x257 := decide (v254 < x256)
  bif x257 then
    bif (decide (v254 < (0 : Int))) then
      none
    else
      match v253[v254.toNat]? with
      | some x258 =>
        let x259 := [x258]
        bif decide (v255.length + x259.length ≤ 8796093022208) then
          let x260 := v255 ++ x259
          let x261 := (IntKind.i64.wrap (v254 + (1 : Int)))
          next v253 x261 x260
        else
          none
      | none => none
  else
    k0 v255
noncomputable def spec_l5Shl_L0.b {α : Type} (N n : Nat) (v253 : List Int) (v254 : Int) (v255 : List Int) (k0 : List Int → Option α) : Option α :=
  Nat.rec (motive := fun _ => List Int → Int → List Int → Option α) (fun _ _ _ => none) (fun _ next => spec_l5Shl_L0r N next k0) n v253 v254 v255
theorem spec_l5Shl_L0.ex : ∃ f : ((α : Type) → Nat → Nat → List Int → Int → List Int → (List Int → Option α) → Option α), f = fun α => @spec_l5Shl_L0.b α := ⟨_, rfl⟩
noncomputable def spec_l5Shl_L0 {α : Type} : Nat → Nat → List Int → Int → List Int → (List Int → Option α) → Option α := Classical.choose spec_l5Shl_L0.ex α
theorem spec_l5Shl_L0.eq : @spec_l5Shl_L0 = @spec_l5Shl_L0.b := funext fun α => congrFun (Classical.choose_spec spec_l5Shl_L0.ex) α
theorem spec_l5Shl_L0.zero {α : Type} (N : Nat) (v253 : List Int) (v254 : Int) (v255 : List Int) (k0 : List Int → Option α) : spec_l5Shl_L0 N 0 v253 v254 v255 k0 = none := by rw [spec_l5Shl_L0.eq]; rfl
theorem spec_l5Shl_L0.succ {α : Type} (N n : Nat) (v253 : List Int) (v254 : Int) (v255 : List Int) (k0 : List Int → Option α) : spec_l5Shl_L0 N (n + 1) v253 v254 v255 k0 = spec_l5Shl_L0r N (fun y0 y1 y2 => spec_l5Shl_L0 N n y0 y1 y2 k0) k0 v253 v254 v255 := by rw [spec_l5Shl_L0.eq]; rfl
/-- loop.example/pinfold/spec.l5Shl -/
noncomputable def spec_l5Shl.b {α : Type} (N : Nat) (a248 : List Int) (a249 : Int) (k0 : List Int → Option α) : Option α :=
  let x250 := ((a248.length : Nat) : Int)
  let x251 := (decide (x250 = (0 : Int)))
  bif x251 then
    k0 []
  else
    bif (decide ((0 : Int) ≤ a249)) then
      bif decide (a249 ≤ a249) then
        bif (decide (a249 ≤ ((8796093022208 : Nat) : Int))) then
          let x252 := (List.replicate a249.toNat (0 : Int))
          spec_l5Shl_L0 N N a248 (0 : Int) x252
            (fun x262 =>
              k0 x262)
        else
          none
      else
        none
    else
      none
theorem spec_l5Shl.ex : ∃ f : ((α : Type) → Nat → List Int → Int → (List Int → Option α) → Option α), f = fun α => @spec_l5Shl.b α := ⟨_, rfl⟩
noncomputable def spec_l5Shl {α : Type} : Nat → List Int → Int → (List Int → Option α) → Option α := Classical.choose spec_l5Shl.ex α
theorem spec_l5Shl.eq : @spec_l5Shl = @spec_l5Shl.b := funext fun α => congrFun (Classical.choose_spec spec_l5Shl.ex) α

/-- loop.example/pinfold/spec.l5At -/
noncomputable def spec_l5At.b {α : Type} (N : Nat) (a286 : List Int) (a287 : Int) (k0 : Int → Option α) : Option α :=
  let x288 := ((a286.length : Nat) : Int)
  let x289 := decide (a287 < x288)
  bif x289 then
    bif (decide (a287 < (0 : Int))) then
      none
    else
      match a286[a287.toNat]? with
      | some x290 =>
        k0 x290
      | none => none
  else
    k0 (0 : Int)
theorem spec_l5At.ex : ∃ f : ((α : Type) → Nat → List Int → Int → (Int → Option α) → Option α), f = fun α => @spec_l5At.b α := ⟨_, rfl⟩
noncomputable def spec_l5At {α : Type} : Nat → List Int → Int → (Int → Option α) → Option α := Classical.choose spec_l5At.ex α
theorem spec_l5At.eq : @spec_l5At = @spec_l5At.b := funext fun α => congrFun (Classical.choose_spec spec_l5At.ex) α

noncomputable def spec_l5Add_J2.b {α : Type} (N : Nat) (v270 : List Int) (v271 : List Int) (v272 : Int) (k0 : List Int → List Int → Int → Option α) : Option α :=
  let x273 := ((v271.length : Nat) : Int)
  let x274 := decide (v272 < x273)
  bif x274 then
    let x275 := ((v271.length : Nat) : Int)
    k0 v270 v271 x275
  else
    k0 v270 v271 v272
theorem spec_l5Add_J2.ex : ∃ f : ((α : Type) → Nat → List Int → List Int → Int → (List Int → List Int → Int → Option α) → Option α), f = fun α => @spec_l5Add_J2.b α := ⟨_, rfl⟩
noncomputable def spec_l5Add_J2 {α : Type} : Nat → List Int → List Int → Int → (List Int → List Int → Int → Option α) → Option α := Classical.choose spec_l5Add_J2.ex α
theorem spec_l5Add_J2.eq : @spec_l5Add_J2 = @spec_l5Add_J2.b := funext fun α => congrFun (Classical.choose_spec spec_l5Add_J2.ex) α
noncomputable def spec_l5Add_L0r {α : Type} (N : Nat) (next : List Int → List Int → Int → Int → Int → List Int → Option α) (k0 : Int → List Int → Option α) (v279 : List Int) (v280 : List Int) (v281 : Int) (v282 : Int) (v283 : Int) (v284 : List Int) : Option α :=
  let x285 := decide (v283 < v281)
  bif x285 then
    spec_l5At N v279 v283
      (fun x291 =>
        spec_l5At N v280 v283
          (fun x292 =>
            let x293 := IntKind.i64.wrap (x291 + x292)
            let x294 := IntKind.i64.wrap (x293 + v282)
            let x295 := (Int.tmod x294 (65536 : Int))
            let x296 := [x295]
            bif decide (v284.length + x296.length ≤ 8796093022208) then
              let x297 := v284 ++ x296
              let x298 := (IntKind.i64.wrap (Int.tdiv x294 (65536 : Int)))
              let x299 := (IntKind.i64.wrap (v283 + (1 : Int)))
              next v279 v280 v281 x298 x299 x297
            else
              none))
  else
    k0 v282 v284
noncomputable def spec_l5Add_L0.b {α : Type} (N n : Nat) (v279 : List Int) (v280 : List Int) (v281 : Int) (v282 : Int) (v283 : Int) (v284 : List Int) (k0 : Int → List Int → Option α) : Option α :=
  Nat.rec (motive := fun _ => List Int → List Int → Int → Int → Int → List Int → Option α) (fun _ _ _ _ _ _ => none) (fun _ next => spec_l5Add_L0r N next k0) n v279 v280 v281 v282 v283 v284
theorem spec_l5Add_L0.ex : ∃ f : ((α : Type) → Nat → Nat → List Int → List Int → Int → Int → Int → List Int → (Int → List Int → Option α) → Option α), f = fun α => @spec_l5Add_L0.b α := ⟨_, rfl⟩
noncomputable def spec_l5Add_L0 {α : Type} : Nat → Nat → List Int → List Int → Int → Int → Int → List Int → (Int → List Int → Option α) → Option α := Classical.choose spec_l5Add_L0.ex α
theorem spec_l5Add_L0.eq : @spec_l5Add_L0 = @spec_l5Add_L0.b := funext fun α => congrFun (Classical.choose_spec spec_l5Add_L0.ex) α
theorem spec_l5Add_L0.zero {α : Type} (N : Nat) (v279 : List Int) (v280 : List Int) (v281 : Int) (v282 : Int) (v283 : Int) (v284 : List Int) (k0 : Int → List Int → Option α) : spec_l5Add_L0 N 0 v279 v280 v281 v282 v283 v284 k0 = none := by rw [spec_l5Add_L0.eq]; rfl
theorem spec_l5Add_L0.succ {α : Type} (N n : Nat) (v279 : List Int) (v280 : List Int) (v281 : Int) (v282 : Int) (v283 : Int) (v284 : List Int) (k0 : Int → List Int → Option α) : spec_l5Add_L0 N (n + 1) v279 v280 v281 v282 v283 v284 k0 = spec_l5Add_L0r N (fun y0 y1 y2 y3 y4 y5 => spec_l5Add_L0 N n y0 y1 y2 y3 y4 y5 k0) k0 v279 v280 v281 v282 v283 v284 := by rw [spec_l5Add_L0.eq]; rfl
noncomputable def spec_l5Add_J12.b {α : Type} (N : Nat) (v302 : Int) (v303 : List Int) (k0 : List Int → Option α) : Option α :=
  let x304 := (decide ((0 : Int) < v302))
  bif x304 then
    let x305 := [v302]
    bif decide (v303.length + x305.length ≤ 8796093022208) then
      let x306 := v303 ++ x305
      k0 x306
    else
      none
  else
    k0 v303
theorem spec_l5Add_J12.ex : ∃ f : ((α : Type) → Nat → Int → List Int → (List Int → Option α) → Option α), f = fun α => @spec_l5Add_J12.b α := ⟨_, rfl⟩
noncomputable def spec_l5Add_J12 {α : Type} : Nat → Int → List Int → (List Int → Option α) → Option α := Classical.choose spec_l5Add_J12.ex α
theorem spec_l5Add_J12.eq : @spec_l5Add_J12 = @spec_l5Add_J12.b := funext fun α => congrFun (Classical.choose_spec spec_l5Add_J12.ex) α
/-- loop.example/pinfold/spec.l5Add -/
noncomputable def spec_l5Add.b {α : Type} (N : Nat) (a267 : List Int) (a268 : List Int) (k0 : List Int → Option α) : Option α :=
  let x269 := ((a267.length : Nat) : Int)
  spec_l5Add_J2 N a267 a268 x269
    (fun x276 x277 x278 =>
      spec_l5Add_L0 N N x276 x277 x278 (0 : Int) (0 : Int) []
        (fun x300 x301 =>
          spec_l5Add_J12 N x300 x301
            (fun x307 =>
              k0 x307)))
theorem spec_l5Add.ex : ∃ f : ((α : Type) → Nat → List Int → List Int → (List Int → Option α) → Option α), f = fun α => @spec_l5Add.b α := ⟨_, rfl⟩
noncomputable def spec_l5Add {α : Type} : Nat → List Int → List Int → (List Int → Option α) → Option α := Classical.choose spec_l5Add.ex α
theorem spec_l5Add.eq : @spec_l5Add = @spec_l5Add.b := funext fun α => congrFun (Classical.choose_spec spec_l5Add.ex) α

noncomputable def spec_l5Sub_J8.b {α : Type} (N : Nat) (v360 : List Int) (v361 : List Int) (v362 : Int) (v363 : Int) (v364 : Int) (v365 : List Int) (k0 : List Int → List Int → Int → Int → Int → List Int → Option α) : Option α :=
  let x366 := (decide (v364 < (0 : Int)))
  bif x366 then
    let x367 := (IntKind.i64.wrap (v364 + (65536 : Int)))
    k0 v360 v361 (1 : Int) v363 x367 v365
  else
    k0 v360 v361 v362 v363 v364 v365
theorem spec_l5Sub_J8.ex : ∃ f : ((α : Type) → Nat → List Int → List Int → Int → Int → Int → List Int → (List Int → List Int → Int → Int → Int → List Int → Option α) → Option α), f = fun α => @spec_l5Sub_J8.b α := ⟨_, rfl⟩
noncomputable def spec_l5Sub_J8 {α : Type} : Nat → List Int → List Int → Int → Int → Int → List Int → (List Int → List Int → Int → Int → Int → List Int → Option α) → Option α := Classical.choose spec_l5Sub_J8.ex α
theorem spec_l5Sub_J8.eq : @spec_l5Sub_J8 = @spec_l5Sub_J8.b := funext fun α => congrFun (Classical.choose_spec spec_l5Sub_J8.ex) α
noncomputable def spec_l5Sub_L0r {α : Type} (N : Nat) (next : List Int → List Int → Int → Int → List Int → Option α) (k0 : List Int → Option α) (v349 : List Int) (v350 : List Int) (v351 : Int) (v352 : Int) (v353 : List Int) : Option α :=
  let x354 := ((v349.length : Nat) : Int)
  let x355 := decide (v352 < x354)
  bif x355 then
    bif (decide (v352 < (0 : Int))) then
      none
    else
      match v349[v352.toNat]? with
      | some x356 =>
        spec_l5At N v350 v352
          (fun x357 =>
            let x358 := IntKind.i64.wrap (x356 - x357)
            let x359 := IntKind.i64.wrap (x358 - v351)
            spec_l5Sub_J8 N v349 v350 (0 : Int) v352 x359 v353
              (fun x368 x369 x370 x371 x372 x373 =>
                let x374 := [x372]
                bif decide (x373.length + x374.length ≤ 8796093022208) then
                  let x375 := x373 ++ x374
                  let x376 := (IntKind.i64.wrap (x371 + (1 : Int)))
                  next x368 x369 x370 x376 x375
                else
                  none))
      | none => none
  else
    k0 v353
noncomputable def spec_l5Sub_L0.b {α : Type} (N n : Nat) (v349 : List Int) (v350 : List Int) (v351 : Int) (v352 : Int) (v353 : List Int) (k0 : List Int → Option α) : Option α :=
  Nat.rec (motive := fun _ => List Int → List Int → Int → Int → List Int → Option α) (fun _ _ _ _ _ => none) (fun _ next => spec_l5Sub_L0r N next k0) n v349 v350 v351 v352 v353
theorem spec_l5Sub_L0.ex : ∃ f : ((α : Type) → Nat → Nat → List Int → List Int → Int → Int → List Int → (List Int → Option α) → Option α), f = fun α => @spec_l5Sub_L0.b α := ⟨_, rfl⟩
noncomputable def spec_l5Sub_L0 {α : Type} : Nat → Nat → List Int → List Int → Int → Int → List Int → (List Int → Option α) → Option α := Classical.choose spec_l5Sub_L0.ex α
theorem spec_l5Sub_L0.eq : @spec_l5Sub_L0 = @spec_l5Sub_L0.b := funext fun α => congrFun (Classical.choose_spec spec_l5Sub_L0.ex) α
theorem spec_l5Sub_L0.zero {α : Type} (N : Nat) (v349 : List Int) (v350 : List Int) (v351 : Int) (v352 : Int) (v353 : List Int) (k0 : List Int → Option α) : spec_l5Sub_L0 N 0 v349 v350 v351 v352 v353 k0 = none := by rw [spec_l5Sub_L0.eq]; rfl
theorem spec_l5Sub_L0.succ {α : Type} (N n : Nat) (v349 : List Int) (v350 : List Int) (v351 : Int) (v352 : Int) (v353 : List Int) (k0 : List Int → Option α) : spec_l5Sub_L0 N (n + 1) v349 v350 v351 v352 v353 k0 = spec_l5Sub_L0r N (fun y0 y1 y2 y3 y4 => spec_l5Sub_L0 N n y0 y1 y2 y3 y4 k0) k0 v349 v350 v351 v352 v353 := by rw [spec_l5Sub_L0.eq]; rfl
/-- loop.example/pinfold/spec.l5Sub -/
noncomputable def spec_l5Sub.b {α : Type} (N : Nat) (a347 : List Int) (a348 : List Int) (k0 : List Int → Option α) : Option α :=
  spec_l5Sub_L0 N N a347 a348 (0 : Int) (0 : Int) []
    (fun x377 =>
      spec_l5Trim N x377
        (fun x378 =>
          k0 x378))
theorem spec_l5Sub.ex : ∃ f : ((α : Type) → Nat → List Int → List Int → (List Int → Option α) → Option α), f = fun α => @spec_l5Sub.b α := ⟨_, rfl⟩
noncomputable def spec_l5Sub {α : Type} : Nat → List Int → List Int → (List Int → Option α) → Option α := Classical.choose spec_l5Sub.ex α
theorem spec_l5Sub.eq : @spec_l5Sub = @spec_l5Sub.b := funext fun α => congrFun (Classical.choose_spec spec_l5Sub.ex) α

noncomputable def spec_l5Div_J17.b {α : Type} (N : Nat) (v318 : Int) (v319 : Int) (v320 : Int) (v321 : Int) (v322 : List Int) (v323 : List Int) (v324 : List Int) (v325 : List Int) (k0 : Int → Int → Int → Int → List Int → List Int → List Int → List Int → Option α) : Option α :=
  let x326 := (decide ((65536 : Int) ≤ v321))
  bif x326 then
    k0 v318 v319 v320 (65535 : Int) v322 v323 v324 v325
  else
    k0 v318 v319 v320 v321 v322 v323 v324 v325
theorem spec_l5Div_J17.ex : ∃ f : ((α : Type) → Nat → Int → Int → Int → Int → List Int → List Int → List Int → List Int → (Int → Int → Int → Int → List Int → List Int → List Int → List Int → Option α) → Option α), f = fun α => @spec_l5Div_J17.b α := ⟨_, rfl⟩
noncomputable def spec_l5Div_J17 {α : Type} : Nat → Int → Int → Int → Int → List Int → List Int → List Int → List Int → (Int → Int → Int → Int → List Int → List Int → List Int → List Int → Option α) → Option α := Classical.choose spec_l5Div_J17.ex α
theorem spec_l5Div_J17.eq : @spec_l5Div_J17 = @spec_l5Div_J17.b := funext fun α => congrFun (Classical.choose_spec spec_l5Div_J17.ex) α
noncomputable def spec_l5Div_L2r {α : Type} (N : Nat) (next : Int → Int → Int → Int → List Int → List Int → List Int → List Int → List Int → Option α) (k0 : Int → Int → Int → Int → List Int → List Int → List Int → List Int → List Int → Option α) (v336 : Int) (v337 : Int) (v338 : Int) (v339 : Int) (v340 : List Int) (v341 : List Int) (v342 : List Int) (v343 : List Int) (v344 : List Int) : Option α :=
  spec_l5Cmp N v344 v343
    (fun x345 =>
      let x346 := (decide ((0 : Int) < x345))
      bif x346 then
        spec_l5Sub N v344 v341
          (fun x379 =>
            let x380 := (IntKind.i64.wrap (v339 - (1 : Int)))
            next v336 v337 v338 x380 v340 v341 v342 v343 x379)
      else
        k0 v336 v337 v338 v339 v340 v341 v342 v343 v344)
noncomputable def spec_l5Div_L2.b {α : Type} (N n : Nat) (v336 : Int) (v337 : Int) (v338 : Int) (v339 : Int) (v340 : List Int) (v341 : List Int) (v342 : List Int) (v343 : List Int) (v344 : List Int) (k0 : Int → Int → Int → Int → List Int → List Int → List Int → List Int → List Int → Option α) : Option α :=
  Nat.rec (motive := fun _ => Int → Int → Int → Int → List Int → List Int → List Int → List Int → List Int → Option α) (fun _ _ _ _ _ _ _ _ _ => none) (fun _ next => spec_l5Div_L2r N next k0) n v336 v337 v338 v339 v340 v341 v342 v343 v344
theorem spec_l5Div_L2.ex : ∃ f : ((α : Type) → Nat → Nat → Int → Int → Int → Int → List Int → List Int → List Int → List Int → List Int → (Int → Int → Int → Int → List Int → List Int → List Int → List Int → List Int → Option α) → Option α), f = fun α => @spec_l5Div_L2.b α := ⟨_, rfl⟩
noncomputable def spec_l5Div_L2 {α : Type} : Nat → Nat → Int → Int → Int → Int → List Int → List Int → List Int → List Int → List Int → (Int → Int → Int → Int → List Int → List Int → List Int → List Int → List Int → Option α) → Option α := Classical.choose spec_l5Div_L2.ex α
theorem spec_l5Div_L2.eq : @spec_l5Div_L2 = @spec_l5Div_L2.b := funext fun α => congrFun (Classical.choose_spec spec_l5Div_L2.ex) α
theorem spec_l5Div_L2.zero {α : Type} (N : Nat) (v336 : Int) (v337 : Int) (v338 : Int) (v339 : Int) (v340 : List Int) (v341 : List Int) (v342 : List Int) (v343 : List Int) (v344 : List Int) (k0 : Int → Int → Int → Int → List Int → List Int → List Int → List Int → List Int → Option α) : spec_l5Div_L2 N 0 v336 v337 v338 v339 v340 v341 v342 v343 v344 k0 = none := by rw [spec_l5Div_L2.eq]; rfl
theorem spec_l5Div_L2.succ {α : Type} (N n : Nat) (v336 : Int) (v337 : Int) (v338 : Int) (v339 : Int) (v340 : List Int) (v341 : List Int) (v342 : List Int) (v343 : List Int) (v344 : List Int) (k0 : Int → Int → Int → Int → List Int → List Int → List Int → List Int → List Int → Option α) : spec_l5Div_L2 N (n + 1) v336 v337 v338 v339 v340 v341 v342 v343 v344 k0 = spec_l5Div_L2r N (fun y0 y1 y2 y3 y4 y5 y6 y7 y8 => spec_l5Div_L2 N n y0 y1 y2 y3 y4 y5 y6 y7 y8 k0) k0 v336 v337 v338 v339 v340 v341 v342 v343 v344 := by rw [spec_l5Div_L2.eq]; rfl
noncomputable def spec_l5Div_L0r {α : Type} (N : Nat) (next : Int → Int → Int → List Int → List Int → List Int → List Int → Option α) (k0 : Int → List Int → List Int → Option α) (v240 : Int) (v241 : Int) (v242 : Int) (v243 : List Int) (v244 : List Int) (v245 : List Int) (v246 : List Int) : Option α :=
  let x247 := (decide ((0 : Int) ≤ v242))
  bif x247 then
    spec_l5Shl N v246 (1 : Int)
      (fun x263 =>
        bif (decide (v242 < (0 : Int))) then
          none
        else
          bif decide (v242.toNat < v243.length) then
            match v243[v242.toNat]? with
            | some x264 =>
              let x265 := IntKind.u64.wrap x264
              spec_NatOf N x265
                (fun x266 =>
                  spec_l5Add N x263 x266
                    (fun x308 =>
                      spec_l5Trim N x308
                        (fun x309 =>
                          spec_l5At N x309 v241
                            (fun x310 =>
                              let x311 := (IntKind.i64.wrap (x310 * (65536 : Int)))
                              let x312 := (IntKind.i64.wrap (v241 - (1 : Int)))
                              spec_l5At N x309 x312
                                (fun x313 =>
                                  let x314 := IntKind.i64.wrap (x311 + x313)
                                  let x315 := (IntKind.i64.wrap (v241 - (1 : Int)))
                                  bif (decide (x315 < (0 : Int))) then
                                    none
                                  else
                                    bif decide (x315.toNat < v244.length) then
                                      match v244[x315.toNat]? with
                                      | some x316 =>
                                        bif (decide (x316 = (0 : Int))) then
                                          none
                                        else
                                          let x317 := IntKind.i64.wrap (Int.tdiv x314 x316)
                                          spec_l5Div_J17 N v240 v241 v242 x317 v243 v244 v245 x309
                                            (fun x327 x328 x329 x330 x331 x332 x333 x334 =>
                                              spec_l5Times N x332 x330
                                                (fun x335 =>
                                                  spec_l5Div_L2 N N x327 x328 x329 x330 x331 x332 x333 x334 x335
                                                    (fun x381 x382 x383 x384 x385 x386 x387 x388 x389 =>
                                                      bif (decide (x383 < (0 : Int))) then
                                                        none
                                                      else
                                                        bif decide (x383.toNat < x387.length) then
                                                          match x387[x383.toNat]? with
                                                          | some x390 =>
                                                            let x391 := x387.set x383.toNat x384
                                                            spec_l5Sub N x388 x389
                                                              (fun x392 =>
                                                                let x393 := (IntKind.i64.wrap (x383 - (1 : Int)))
                                                                next x381 x382 x393 x385 x386 x391 x392)
                                                          | none => none
                                                        else
                                                          none)))
                                      | none => none
                                    else
                                      none)))))
            | none => none
          else
            none)
  else
    k0 v240 v245 v246
noncomputable def spec_l5Div_L0.b {α : Type} (N n : Nat) (v240 : Int) (v241 : Int) (v242 : Int) (v243 : List Int) (v244 : List Int) (v245 : List Int) (v246 : List Int) (k0 : Int → List Int → List Int → Option α) : Option α :=
  Nat.rec (motive := fun _ => Int → Int → Int → List Int → List Int → List Int → List Int → Option α) (fun _ _ _ _ _ _ _ => none) (fun _ next => spec_l5Div_L0r N next k0) n v240 v241 v242 v243 v244 v245 v246
theorem spec_l5Div_L0.ex : ∃ f : ((α : Type) → Nat → Nat → Int → Int → Int → List Int → List Int → List Int → List Int → (Int → List Int → List Int → Option α) → Option α), f = fun α => @spec_l5Div_L0.b α := ⟨_, rfl⟩
noncomputable def spec_l5Div_L0 {α : Type} : Nat → Nat → Int → Int → Int → List Int → List Int → List Int → List Int → (Int → List Int → List Int → Option α) → Option α := Classical.choose spec_l5Div_L0.ex α
theorem spec_l5Div_L0.eq : @spec_l5Div_L0 = @spec_l5Div_L0.b := funext fun α => congrFun (Classical.choose_spec spec_l5Div_L0.ex) α
theorem spec_l5Div_L0.zero {α : Type} (N : Nat) (v240 : Int) (v241 : Int) (v242 : Int) (v243 : List Int) (v244 : List Int) (v245 : List Int) (v246 : List Int) (k0 : Int → List Int → List Int → Option α) : spec_l5Div_L0 N 0 v240 v241 v242 v243 v244 v245 v246 k0 = none := by rw [spec_l5Div_L0.eq]; rfl
theorem spec_l5Div_L0.succ {α : Type} (N n : Nat) (v240 : Int) (v241 : Int) (v242 : Int) (v243 : List Int) (v244 : List Int) (v245 : List Int) (v246 : List Int) (k0 : Int → List Int → List Int → Option α) : spec_l5Div_L0 N (n + 1) v240 v241 v242 v243 v244 v245 v246 k0 = spec_l5Div_L0r N (fun y0 y1 y2 y3 y4 y5 y6 => spec_l5Div_L0 N n y0 y1 y2 y3 y4 y5 y6 k0) k0 v240 v241 v242 v243 v244 v245 v246 := by rw [spec_l5Div_L0.eq]; rfl
/-- loop.example/pinfold/spec.l5Div -/
noncomputable def spec_l5Div.b {α : Type} (N : Nat) (a93 : List Int) (a94 : List Int) (k0 : List Int → List Int → Option α) : Option α :=
  spec_l5Cmp N a93 a94
    (fun x117 =>
      let x118 := (decide (x117 < (0 : Int)))
      bif x118 then
        spec_l5Trim N a93
          (fun x119 =>
            k0 [] x119)
      else
        let x120 := ((a94.length : Nat) : Int)
        let x121 := (decide (x120 = (1 : Int)))
        bif x121 then
          match a94[0]? with
          | some x122 =>
            spec_l5DivSmall N a93 x122
              (fun x146 x147 =>
                let x148 := IntKind.u64.wrap x146
                spec_NatOf N x148
                  (fun x159 =>
                    k0 x147 x159))
          | none => none
        else
          let x160 := ((a94.length : Nat) : Int)
          let x161 := (IntKind.i64.wrap (x160 - (1 : Int)))
          bif (decide (x161 < (0 : Int))) then
            none
          else
            match a94[x161.toNat]? with
            | some x162 =>
              let x163 := (IntKind.i64.wrap (x162 + (1 : Int)))
              bif (decide (x163 = (0 : Int))) then
                none
              else
                let x164 := (IntKind.i64.wrap (Int.tdiv (65536 : Int) x163))
                spec_l5Times N a93 x164
                  (fun x215 =>
                    spec_l5Times N a94 x164
                      (fun x216 =>
                        let x217 := ((x216.length : Nat) : Int)
                        let x218 := ((x215.length : Nat) : Int)
                        let x219 := IntKind.i64.wrap (x218 - x217)
                        let x220 := (IntKind.i64.wrap (x219 + (1 : Int)))
                        bif (decide ((0 : Int) ≤ x220)) then
                          bif decide (x220 ≤ x220) then
                            bif (decide (x220 ≤ ((8796093022208 : Nat) : Int))) then
                              let x221 := (List.replicate x220.toNat (0 : Int))
                              let x222 := ((x215.length : Nat) : Int)
                              let x223 := IntKind.i64.wrap (x222 - x217)
                              let x224 := (IntKind.i64.wrap (x223 + (1 : Int)))
                              spec_l5Top N x215 x224
                                (fun x237 =>
                                  let x238 := ((x215.length : Nat) : Int)
                                  let x239 := IntKind.i64.wrap (x238 - x217)
                                  spec_l5Div_L0 N N x164 x217 x239 x215 x216 x221 x237
                                    (fun x394 x395 x396 =>
                                      spec_l5DivSmall N x396 x394
                                        (fun _ x398 =>
                                          spec_l5Trim N x395
                                            (fun x399 =>
                                              k0 x399 x398))))
                            else
                              none
                          else
                            none
                        else
                          none))
            | none => none)
theorem spec_l5Div.ex : ∃ f : ((α : Type) → Nat → List Int → List Int → (List Int → List Int → Option α) → Option α), f = fun α => @spec_l5Div.b α := ⟨_, rfl⟩
noncomputable def spec_l5Div {α : Type} : Nat → List Int → List Int → (List Int → List Int → Option α) → Option α := Classical.choose spec_l5Div.ex α
theorem spec_l5Div.eq : @spec_l5Div = @spec_l5Div.b := funext fun α => congrFun (Classical.choose_spec spec_l5Div.ex) α

noncomputable def spec_l5Gcd_L0r {α : Type} (N : Nat) (next : List Int → List Int → Option α) (k0 : List Int → Option α) (v89 : List Int) (v90 : List Int) : Option α :=
  let x91 := ((v90.length : Nat) : Int)
  let x92 := (decide ((0 : Int) < x91))
  bif x92 then
    spec_l5Div N v89 v90
      (fun _ x401 =>
        next v90 x401)
  else
    k0 v89
noncomputable def spec_l5Gcd_L0.b {α : Type} (N n : Nat) (v89 : List Int) (v90 : List Int) (k0 : List Int → Option α) : Option α :=
  Nat.rec (motive := fun _ => List Int → List Int → Option α) (fun _ _ => none) (fun _ next => spec_l5Gcd_L0r N next k0) n v89 v90
theorem spec_l5Gcd_L0.ex : ∃ f : ((α : Type) → Nat → Nat → List Int → List Int → (List Int → Option α) → Option α), f = fun α => @spec_l5Gcd_L0.b α := ⟨_, rfl⟩
noncomputable def spec_l5Gcd_L0 {α : Type} : Nat → Nat → List Int → List Int → (List Int → Option α) → Option α := Classical.choose spec_l5Gcd_L0.ex α
theorem spec_l5Gcd_L0.eq : @spec_l5Gcd_L0 = @spec_l5Gcd_L0.b := funext fun α => congrFun (Classical.choose_spec spec_l5Gcd_L0.ex) α
theorem spec_l5Gcd_L0.zero {α : Type} (N : Nat) (v89 : List Int) (v90 : List Int) (k0 : List Int → Option α) : spec_l5Gcd_L0 N 0 v89 v90 k0 = none := by rw [spec_l5Gcd_L0.eq]; rfl
theorem spec_l5Gcd_L0.succ {α : Type} (N n : Nat) (v89 : List Int) (v90 : List Int) (k0 : List Int → Option α) : spec_l5Gcd_L0 N (n + 1) v89 v90 k0 = spec_l5Gcd_L0r N (fun y0 y1 => spec_l5Gcd_L0 N n y0 y1 k0) k0 v89 v90 := by rw [spec_l5Gcd_L0.eq]; rfl
/-- loop.example/pinfold/spec.l5Gcd -/
noncomputable def spec_l5Gcd.b {α : Type} (N : Nat) (a64 : List Int) (a65 : List Int) (k0 : List Int → Option α) : Option α :=
  spec_l5Trim N a64
    (fun x87 =>
      spec_l5Trim N a65
        (fun x88 =>
          spec_l5Gcd_L0 N N x87 x88
            (fun x402 =>
              k0 x402)))
theorem spec_l5Gcd.ex : ∃ f : ((α : Type) → Nat → List Int → List Int → (List Int → Option α) → Option α), f = fun α => @spec_l5Gcd.b α := ⟨_, rfl⟩
noncomputable def spec_l5Gcd {α : Type} : Nat → List Int → List Int → (List Int → Option α) → Option α := Classical.choose spec_l5Gcd.ex α
theorem spec_l5Gcd.eq : @spec_l5Gcd = @spec_l5Gcd.b := funext fun α => congrFun (Classical.choose_spec spec_l5Gcd.ex) α

/-- loop.example/pinfold/spec.l6One -/
noncomputable def spec_l6One.b {α : Type} (N : Nat) (a404 : List Int) (k0 : Bool → Option α) : Option α :=
  let x405 := ((a404.length : Nat) : Int)
  let x406 := (decide (x405 = (1 : Int)))
  bif x406 then
    match a404[0]? with
    | some x407 =>
      let x408 := (decide (x407 = (1 : Int)))
      k0 x408
    | none => none
  else
    k0 false
theorem spec_l6One.ex : ∃ f : ((α : Type) → Nat → List Int → (Bool → Option α) → Option α), f = fun α => @spec_l6One.b α := ⟨_, rfl⟩
noncomputable def spec_l6One {α : Type} : Nat → List Int → (Bool → Option α) → Option α := Classical.choose spec_l6One.ex α
theorem spec_l6One.eq : @spec_l6One = @spec_l6One.b := funext fun α => congrFun (Classical.choose_spec spec_l6One.ex) α

/-- loop.example/pinfold/spec.FracOk -/
noncomputable def spec_FracOk.b {α : Type} (N : Nat) (a35 : Bool × (List Int) × (List Int) × Unit) (k0 : Bool → Option α) : Option α :=
  spec_NatOk N a35.2.1
    (fun x56 =>
      let x57 := !x56
      bif x57 then
        k0 false
      else
        spec_NatOk N a35.2.2.1
          (fun x58 =>
            let x59 := !x58
            bif x59 then
              k0 false
            else
              let x60 := ((a35.2.2.1.length : Nat) : Int)
              let x61 := (decide (x60 = (0 : Int)))
              bif x61 then
                k0 false
              else
                let x62 := ((a35.2.1.length : Nat) : Int)
                let x63 := (decide (x62 = (0 : Int)))
                bif x63 then
                  bif a35.1 then
                    k0 false
                  else
                    spec_l5Gcd N a35.2.1 a35.2.2.1
                      (fun x403 =>
                        spec_l6One N x403
                          (fun x409 =>
                            k0 x409))
                else
                  spec_l5Gcd N a35.2.1 a35.2.2.1
                    (fun x410 =>
                      spec_l6One N x410
                        (fun x411 =>
                          k0 x411))))
theorem spec_FracOk.ex : ∃ f : ((α : Type) → Nat → (Bool × (List Int) × (List Int) × Unit) → (Bool → Option α) → Option α), f = fun α => @spec_FracOk.b α := ⟨_, rfl⟩
noncomputable def spec_FracOk {α : Type} : Nat → (Bool × (List Int) × (List Int) × Unit) → (Bool → Option α) → Option α := Classical.choose spec_FracOk.ex α
theorem spec_FracOk.eq : @spec_FracOk = @spec_FracOk.b := funext fun α => congrFun (Classical.choose_spec spec_FracOk.ex) α

/-- loop.example/pinfold/spec.FracAbs -/
noncomputable def spec_FracAbs.b {α : Type} (N : Nat) (a34 : Bool × (List Int) × (List Int) × Unit) (k0 : Bool → Bool → List Int → List Int → Option α) : Option α :=
  spec_FracOk N a34
    (fun x412 =>
      let x413 := !x412
      bif x413 then
        k0 false false [] []
      else
        spec_l5Trim N a34.2.1
          (fun x414 =>
            spec_l5Trim N a34.2.2.1
              (fun x415 =>
                k0 false true x414 x415)))
theorem spec_FracAbs.ex : ∃ f : ((α : Type) → Nat → (Bool × (List Int) × (List Int) × Unit) → (Bool → Bool → List Int → List Int → Option α) → Option α), f = fun α => @spec_FracAbs.b α := ⟨_, rfl⟩
noncomputable def spec_FracAbs {α : Type} : Nat → (Bool × (List Int) × (List Int) × Unit) → (Bool → Bool → List Int → List Int → Option α) → Option α := Classical.choose spec_FracAbs.ex α
theorem spec_FracAbs.eq : @spec_FracAbs = @spec_FracAbs.b := funext fun α => congrFun (Classical.choose_spec spec_FracAbs.ex) α

/-- loop.example/pinfold/impl.in -/
noncomputable def impl_in.b {α : Type} (N : Nat) (a451 : Int) (a452 : Int) (a453 : Int) (k0 : Bool → Option α) : Option α :=
  let x454 := decide (a452 ≤ a451)
  bif x454 then
    let x455 := decide (a451 ≤ a453)
    k0 x455
  else
    k0 false
theorem impl_in.ex : ∃ f : ((α : Type) → Nat → Int → Int → Int → (Bool → Option α) → Option α), f = fun α => @impl_in.b α := ⟨_, rfl⟩
noncomputable def impl_in {α : Type} : Nat → Int → Int → Int → (Bool → Option α) → Option α := Classical.choose impl_in.ex α
theorem impl_in.eq : @impl_in = @impl_in.b := funext fun α => congrFun (Classical.choose_spec impl_in.ex) α

/-- loop.example/pinfold/impl.NatOk$1 -/
noncomputable def impl_NatOk_1.b {α : Type} (N : Nat) (a450 : Int) (k0 : Bool → Option α) : Option α :=
  impl_in N a450 (0 : Int) (65535 : Int)
    (fun x456 =>
      let x457 := !x456
      k0 x457)
theorem impl_NatOk_1.ex : ∃ f : ((α : Type) → Nat → Int → (Bool → Option α) → Option α), f = fun α => @impl_NatOk_1.b α := ⟨_, rfl⟩
noncomputable def impl_NatOk_1 {α : Type} : Nat → Int → (Bool → Option α) → Option α := Classical.choose impl_NatOk_1.ex α
theorem impl_NatOk_1.eq : @impl_NatOk_1 = @impl_NatOk_1.b := funext fun α => congrFun (Classical.choose_spec impl_NatOk_1.ex) α

noncomputable def slices_IndexFunc_int_int__impl_NatOk_1_L0r {α : Type} (N : Nat) (next : List Int → Int → Int → Option α) (k0 : Int → Option α) (k1 : Option α) (v445 : List Int) (v446 : Int) (v447 : Int) : Option α :=
  let x448 := decide (v447 < v446)
  bif x448 then
    bif (decide (v447 < (0 : Int))) then
      none
    else
      match v445[v447.toNat]? with
      | some x449 =>
        impl_NatOk_1 N x449
          (fun x458 =>
            bif x458 then
              k0 v447
            else
              let x459 := (IntKind.i64.wrap (v447 + (1 : Int)))
              next v445 v446 x459)
      | none => none
  else
    k1
noncomputable def slices_IndexFunc_int_int__impl_NatOk_1_L0.b {α : Type} (N n : Nat) (v445 : List Int) (v446 : Int) (v447 : Int) (k0 : Int → Option α) (k1 : Option α) : Option α :=
  Nat.rec (motive := fun _ => List Int → Int → Int → Option α) (fun _ _ _ => none) (fun _ next => slices_IndexFunc_int_int__impl_NatOk_1_L0r N next k0 k1) n v445 v446 v447
theorem slices_IndexFunc_int_int__impl_NatOk_1_L0.ex : ∃ f : ((α : Type) → Nat → Nat → List Int → Int → Int → (Int → Option α) → (Option α) → Option α), f = fun α => @slices_IndexFunc_int_int__impl_NatOk_1_L0.b α := ⟨_, rfl⟩
noncomputable def slices_IndexFunc_int_int__impl_NatOk_1_L0 {α : Type} : Nat → Nat → List Int → Int → Int → (Int → Option α) → (Option α) → Option α := Classical.choose slices_IndexFunc_int_int__impl_NatOk_1_L0.ex α
theorem slices_IndexFunc_int_int__impl_NatOk_1_L0.eq : @slices_IndexFunc_int_int__impl_NatOk_1_L0 = @slices_IndexFunc_int_int__impl_NatOk_1_L0.b := funext fun α => congrFun (Classical.choose_spec slices_IndexFunc_int_int__impl_NatOk_1_L0.ex) α
theorem slices_IndexFunc_int_int__impl_NatOk_1_L0.zero {α : Type} (N : Nat) (v445 : List Int) (v446 : Int) (v447 : Int) (k0 : Int → Option α) (k1 : Option α) : slices_IndexFunc_int_int__impl_NatOk_1_L0 N 0 v445 v446 v447 k0 k1 = none := by rw [slices_IndexFunc_int_int__impl_NatOk_1_L0.eq]; rfl
theorem slices_IndexFunc_int_int__impl_NatOk_1_L0.succ {α : Type} (N n : Nat) (v445 : List Int) (v446 : Int) (v447 : Int) (k0 : Int → Option α) (k1 : Option α) : slices_IndexFunc_int_int__impl_NatOk_1_L0 N (n + 1) v445 v446 v447 k0 k1 = slices_IndexFunc_int_int__impl_NatOk_1_L0r N (fun y0 y1 y2 => slices_IndexFunc_int_int__impl_NatOk_1_L0 N n y0 y1 y2 k0 k1) k0 k1 v445 v446 v447 := by rw [slices_IndexFunc_int_int__impl_NatOk_1_L0.eq]; rfl
/-- slices.IndexFunc[[]int,int] -/
noncomputable def slices_IndexFunc_int_int__impl_NatOk_1.b {α : Type} (N : Nat) (a443 : List Int) (k0 : Int → Option α) : Option α :=
  let x444 := ((a443.length : Nat) : Int)
  slices_IndexFunc_int_int__impl_NatOk_1_L0 N N a443 x444 (0 : Int)
    (fun x460 =>
      k0 x460)
    (
      k0 (-1 : Int))
theorem slices_IndexFunc_int_int__impl_NatOk_1.ex : ∃ f : ((α : Type) → Nat → List Int → (Int → Option α) → Option α), f = fun α => @slices_IndexFunc_int_int__impl_NatOk_1.b α := ⟨_, rfl⟩
noncomputable def slices_IndexFunc_int_int__impl_NatOk_1 {α : Type} : Nat → List Int → (Int → Option α) → Option α := Classical.choose slices_IndexFunc_int_int__impl_NatOk_1.ex α
theorem slices_IndexFunc_int_int__impl_NatOk_1.eq : @slices_IndexFunc_int_int__impl_NatOk_1 = @slices_IndexFunc_int_int__impl_NatOk_1.b := funext fun α => congrFun (Classical.choose_spec slices_IndexFunc_int_int__impl_NatOk_1.ex) α

/-- slices.ContainsFunc[[]int,int] -/
noncomputable def slices_ContainsFunc_int_int__impl_NatOk_1.b {α : Type} (N : Nat) (a442 : List Int) (k0 : Bool → Option α) : Option α :=
  slices_IndexFunc_int_int__impl_NatOk_1 N a442
    (fun x461 =>
      let x462 := (decide ((0 : Int) ≤ x461))
      k0 x462)
theorem slices_ContainsFunc_int_int__impl_NatOk_1.ex : ∃ f : ((α : Type) → Nat → List Int → (Bool → Option α) → Option α), f = fun α => @slices_ContainsFunc_int_int__impl_NatOk_1.b α := ⟨_, rfl⟩
noncomputable def slices_ContainsFunc_int_int__impl_NatOk_1 {α : Type} : Nat → List Int → (Bool → Option α) → Option α := Classical.choose slices_ContainsFunc_int_int__impl_NatOk_1.ex α
theorem slices_ContainsFunc_int_int__impl_NatOk_1.eq : @slices_ContainsFunc_int_int__impl_NatOk_1 = @slices_ContainsFunc_int_int__impl_NatOk_1.b := funext fun α => congrFun (Classical.choose_spec slices_ContainsFunc_int_int__impl_NatOk_1.ex) α

/-- loop.example/pinfold/impl.NatOk -/
noncomputable def impl_NatOk.b {α : Type} (N : Nat) (a437 : List Int) (k0 : Bool → Option α) : Option α :=
  let x438 := ((a437.length : Nat) : Int)
  let x439 := (decide (x438 ≤ (256 : Int)))
  bif x439 then
    let x440 := ((a437.length : Nat) : Int)
    let x441 := (decide (x440 = (0 : Int)))
    bif x441 then
      slices_ContainsFunc_int_int__impl_NatOk_1 N a437
        (fun x463 =>
          let x464 := !x463
          k0 x464)
    else
      let x465 := ((a437.length : Nat) : Int)
      let x466 := (IntKind.i64.wrap (x465 - (1 : Int)))
      bif (decide (x466 < (0 : Int))) then
        none
      else
        match a437[x466.toNat]? with
        | some x467 =>
          let x468 := (!(decide (x467 = (0 : Int))))
          bif x468 then
            slices_ContainsFunc_int_int__impl_NatOk_1 N a437
              (fun x469 =>
                let x470 := !x469
                k0 x470)
          else
            k0 false
        | none => none
  else
    k0 false
theorem impl_NatOk.ex : ∃ f : ((α : Type) → Nat → List Int → (Bool → Option α) → Option α), f = fun α => @impl_NatOk.b α := ⟨_, rfl⟩
noncomputable def impl_NatOk {α : Type} : Nat → List Int → (Bool → Option α) → Option α := Classical.choose impl_NatOk.ex α
theorem impl_NatOk.eq : @impl_NatOk = @impl_NatOk.b := funext fun α => congrFun (Classical.choose_spec impl_NatOk.ex) α

/-- loop.example/pinfold/impl.nats$1 -/
noncomputable def impl_nats_1.b {α : Type} (N : Nat) (a436 : List Int) (k0 : Bool → Option α) : Option α :=
  impl_NatOk N a436
    (fun x471 =>
      let x472 := !x471
      k0 x472)
theorem impl_nats_1.ex : ∃ f : ((α : Type) → Nat → List Int → (Bool → Option α) → Option α), f = fun α => @impl_nats_1.b α := ⟨_, rfl⟩
noncomputable def impl_nats_1 {α : Type} : Nat → List Int → (Bool → Option α) → Option α := Classical.choose impl_nats_1.ex α
theorem impl_nats_1.eq : @impl_nats_1 = @impl_nats_1.b := funext fun α => congrFun (Classical.choose_spec impl_nats_1.ex) α

noncomputable def slices_IndexFunc_int_int__impl_nats_1_L0r {α : Type} (N : Nat) (next : List (List Int) → Int → Int → Option α) (k0 : Int → Option α) (k1 : Option α) (v431 : List (List Int)) (v432 : Int) (v433 : Int) : Option α :=
  let x434 := decide (v433 < v432)
  bif x434 then
    bif (decide (v433 < (0 : Int))) then
      none
    else
      match v431[v433.toNat]? with
      | some x435 =>
        impl_nats_1 N x435
          (fun x473 =>
            bif x473 then
              k0 v433
            else
              let x474 := (IntKind.i64.wrap (v433 + (1 : Int)))
              next v431 v432 x474)
      | none => none
  else
    k1
noncomputable def slices_IndexFunc_int_int__impl_nats_1_L0.b {α : Type} (N n : Nat) (v431 : List (List Int)) (v432 : Int) (v433 : Int) (k0 : Int → Option α) (k1 : Option α) : Option α :=
  Nat.rec (motive := fun _ => List (List Int) → Int → Int → Option α) (fun _ _ _ => none) (fun _ next => slices_IndexFunc_int_int__impl_nats_1_L0r N next k0 k1) n v431 v432 v433
theorem slices_IndexFunc_int_int__impl_nats_1_L0.ex : ∃ f : ((α : Type) → Nat → Nat → List (List Int) → Int → Int → (Int → Option α) → (Option α) → Option α), f = fun α => @slices_IndexFunc_int_int__impl_nats_1_L0.b α := ⟨_, rfl⟩
noncomputable def slices_IndexFunc_int_int__impl_nats_1_L0 {α : Type} : Nat → Nat → List (List Int) → Int → Int → (Int → Option α) → (Option α) → Option α := Classical.choose slices_IndexFunc_int_int__impl_nats_1_L0.ex α
theorem slices_IndexFunc_int_int__impl_nats_1_L0.eq : @slices_IndexFunc_int_int__impl_nats_1_L0 = @slices_IndexFunc_int_int__impl_nats_1_L0.b := funext fun α => congrFun (Classical.choose_spec slices_IndexFunc_int_int__impl_nats_1_L0.ex) α
theorem slices_IndexFunc_int_int__impl_nats_1_L0.zero {α : Type} (N : Nat) (v431 : List (List Int)) (v432 : Int) (v433 : Int) (k0 : Int → Option α) (k1 : Option α) : slices_IndexFunc_int_int__impl_nats_1_L0 N 0 v431 v432 v433 k0 k1 = none := by rw [slices_IndexFunc_int_int__impl_nats_1_L0.eq]; rfl
theorem slices_IndexFunc_int_int__impl_nats_1_L0.succ {α : Type} (N n : Nat) (v431 : List (List Int)) (v432 : Int) (v433 : Int) (k0 : Int → Option α) (k1 : Option α) : slices_IndexFunc_int_int__impl_nats_1_L0 N (n + 1) v431 v432 v433 k0 k1 = slices_IndexFunc_int_int__impl_nats_1_L0r N (fun y0 y1 y2 => slices_IndexFunc_int_int__impl_nats_1_L0 N n y0 y1 y2 k0 k1) k0 k1 v431 v432 v433 := by rw [slices_IndexFunc_int_int__impl_nats_1_L0.eq]; rfl
/-- slices.IndexFunc[[][]int,[]int] -/
noncomputable def slices_IndexFunc_int_int__impl_nats_1.b {α : Type} (N : Nat) (a429 : List (List Int)) (k0 : Int → Option α) : Option α :=
  let x430 := ((a429.length : Nat) : Int)
  slices_IndexFunc_int_int__impl_nats_1_L0 N N a429 x430 (0 : Int)
    (fun x475 =>
      k0 x475)
    (
      k0 (-1 : Int))
theorem slices_IndexFunc_int_int__impl_nats_1.ex : ∃ f : ((α : Type) → Nat → List (List Int) → (Int → Option α) → Option α), f = fun α => @slices_IndexFunc_int_int__impl_nats_1.b α := ⟨_, rfl⟩
noncomputable def slices_IndexFunc_int_int__impl_nats_1 {α : Type} : Nat → List (List Int) → (Int → Option α) → Option α := Classical.choose slices_IndexFunc_int_int__impl_nats_1.ex α
theorem slices_IndexFunc_int_int__impl_nats_1.eq : @slices_IndexFunc_int_int__impl_nats_1 = @slices_IndexFunc_int_int__impl_nats_1.b := funext fun α => congrFun (Classical.choose_spec slices_IndexFunc_int_int__impl_nats_1.ex) α

/-- slices.ContainsFunc[[][]int,[]int] -/
noncomputable def slices_ContainsFunc_int_int__impl_nats_1.b {α : Type} (N : Nat) (a428 : List (List Int)) (k0 : Bool → Option α) : Option α :=
  slices_IndexFunc_int_int__impl_nats_1 N a428
    (fun x476 =>
      let x477 := (decide ((0 : Int) ≤ x476))
      k0 x477)
theorem slices_ContainsFunc_int_int__impl_nats_1.ex : ∃ f : ((α : Type) → Nat → List (List Int) → (Bool → Option α) → Option α), f = fun α => @slices_ContainsFunc_int_int__impl_nats_1.b α := ⟨_, rfl⟩
noncomputable def slices_ContainsFunc_int_int__impl_nats_1 {α : Type} : Nat → List (List Int) → (Bool → Option α) → Option α := Classical.choose slices_ContainsFunc_int_int__impl_nats_1.ex α
theorem slices_ContainsFunc_int_int__impl_nats_1.eq : @slices_ContainsFunc_int_int__impl_nats_1 = @slices_ContainsFunc_int_int__impl_nats_1.b := funext fun α => congrFun (Classical.choose_spec slices_ContainsFunc_int_int__impl_nats_1.ex) α

/-- loop.example/pinfold/impl.nats -/
noncomputable def impl_nats.b {α : Type} (N : Nat) (a427 : List (List Int)) (k0 : Bool → Option α) : Option α :=
  slices_ContainsFunc_int_int__impl_nats_1 N a427
    (fun x478 =>
      let x479 := !x478
      k0 x479)
theorem impl_nats.ex : ∃ f : ((α : Type) → Nat → List (List Int) → (Bool → Option α) → Option α), f = fun α => @impl_nats.b α := ⟨_, rfl⟩
noncomputable def impl_nats {α : Type} : Nat → List (List Int) → (Bool → Option α) → Option α := Classical.choose impl_nats.ex α
theorem impl_nats.eq : @impl_nats = @impl_nats.b := funext fun α => congrFun (Classical.choose_spec impl_nats.ex) α

noncomputable def impl_natCmp_L0r {α : Type} (N : Nat) (next : List Int → List Int → Int → Option α) (k0 : Int → Option α) (k1 : Option α) (v574 : List Int) (v575 : List Int) (v576 : Int) : Option α :=
  let x577 := (decide ((0 : Int) ≤ v576))
  bif x577 then
    bif (decide (v576 < (0 : Int))) then
      none
    else
      match v574[v576.toNat]? with
      | some x578 =>
        bif (decide (v576 < (0 : Int))) then
          none
        else
          match v575[v576.toNat]? with
          | some x579 =>
            let x580 := !(decide (x578 = x579))
            bif x580 then
              bif (decide (v576 < (0 : Int))) then
                none
              else
                match v574[v576.toNat]? with
                | some x581 =>
                  bif (decide (v576 < (0 : Int))) then
                    none
                  else
                    match v575[v576.toNat]? with
                    | some x582 =>
                      let x583 := IntKind.i64.wrap (x581 - x582)
                      let x584 := (minI (1 : Int) x583)
                      let x585 := (maxI (-1 : Int) x584)
                      k0 x585
                    | none => none
                | none => none
            else
              let x586 := (IntKind.i64.wrap (v576 - (1 : Int)))
              next v574 v575 x586
          | none => none
      | none => none
  else
    k1
noncomputable def impl_natCmp_L0.b {α : Type} (N n : Nat) (v574 : List Int) (v575 : List Int) (v576 : Int) (k0 : Int → Option α) (k1 : Option α) : Option α :=
  Nat.rec (motive := fun _ => List Int → List Int → Int → Option α) (fun _ _ _ => none) (fun _ next => impl_natCmp_L0r N next k0 k1) n v574 v575 v576
theorem impl_natCmp_L0.ex : ∃ f : ((α : Type) → Nat → Nat → List Int → List Int → Int → (Int → Option α) → (Option α) → Option α), f = fun α => @impl_natCmp_L0.b α := ⟨_, rfl⟩
noncomputable def impl_natCmp_L0 {α : Type} : Nat → Nat → List Int → List Int → Int → (Int → Option α) → (Option α) → Option α := Classical.choose impl_natCmp_L0.ex α
theorem impl_natCmp_L0.eq : @impl_natCmp_L0 = @impl_natCmp_L0.b := funext fun α => congrFun (Classical.choose_spec impl_natCmp_L0.ex) α
theorem impl_natCmp_L0.zero {α : Type} (N : Nat) (v574 : List Int) (v575 : List Int) (v576 : Int) (k0 : Int → Option α) (k1 : Option α) : impl_natCmp_L0 N 0 v574 v575 v576 k0 k1 = none := by rw [impl_natCmp_L0.eq]; rfl
theorem impl_natCmp_L0.succ {α : Type} (N n : Nat) (v574 : List Int) (v575 : List Int) (v576 : Int) (k0 : Int → Option α) (k1 : Option α) : impl_natCmp_L0 N (n + 1) v574 v575 v576 k0 k1 = impl_natCmp_L0r N (fun y0 y1 y2 => impl_natCmp_L0 N n y0 y1 y2 k0 k1) k0 k1 v574 v575 v576 := by rw [impl_natCmp_L0.eq]; rfl
/-- loop.example/pinfold/impl.natCmp -/
noncomputable def impl_natCmp.b {α : Type} (N : Nat) (a562 : List Int) (a563 : List Int) (k0 : Int → Option α) : Option α :=
  let x564 := ((a562.length : Nat) : Int)
  let x565 := ((a563.length : Nat) : Int)
  let x566 := !(decide (x564 = x565))
  bif x566 then
    let x567 := ((a562.length : Nat) : Int)
    let x568 := ((a563.length : Nat) : Int)
    let x569 := IntKind.i64.wrap (x567 - x568)
    let x570 := (minI (1 : Int) x569)
    let x571 := (maxI (-1 : Int) x570)
    k0 x571
  else
    let x572 := ((a562.length : Nat) : Int)
    let x573 := (IntKind.i64.wrap (x572 - (1 : Int)))
    impl_natCmp_L0 N N a562 a563 x573
      (fun x587 =>
        k0 x587)
      (
        k0 (0 : Int))
theorem impl_natCmp.ex : ∃ f : ((α : Type) → Nat → List Int → List Int → (Int → Option α) → Option α), f = fun α => @impl_natCmp.b α := ⟨_, rfl⟩
noncomputable def impl_natCmp {α : Type} : Nat → List Int → List Int → (Int → Option α) → Option α := Classical.choose impl_natCmp.ex α
theorem impl_natCmp.eq : @impl_natCmp = @impl_natCmp.b := funext fun α => congrFun (Classical.choose_spec impl_natCmp.ex) α

noncomputable def impl_trim_L0r {α : Type} (N : Nat) (next : List Int → Option α) (k0 : List Int → Option α) (v615 : List Int) : Option α :=
  let x616 := ((v615.length : Nat) : Int)
  let x617 := (decide ((0 : Int) < x616))
  bif x617 then
    let x618 := ((v615.length : Nat) : Int)
    let x619 := (IntKind.i64.wrap (x618 - (1 : Int)))
    bif (decide (x619 < (0 : Int))) then
      none
    else
      match v615[x619.toNat]? with
      | some x620 =>
        let x621 := (decide (x620 = (0 : Int)))
        bif x621 then
          let x622 := ((v615.length : Nat) : Int)
          let x623 := (IntKind.i64.wrap (x622 - (1 : Int)))
          bif (decide ((0 : Int) ≤ x623)) then
            bif (decide (x623 ≤ ((v615.length : Nat) : Int))) then
              let x624 := v615.take x623.toNat
              next x624
            else
              none
          else
            none
        else
          k0 v615
      | none => none
  else
    k0 v615
noncomputable def impl_trim_L0.b {α : Type} (N n : Nat) (v615 : List Int) (k0 : List Int → Option α) : Option α :=
  Nat.rec (motive := fun _ => List Int → Option α) (fun _ => none) (fun _ next => impl_trim_L0r N next k0) n v615
theorem impl_trim_L0.ex : ∃ f : ((α : Type) → Nat → Nat → List Int → (List Int → Option α) → Option α), f = fun α => @impl_trim_L0.b α := ⟨_, rfl⟩
noncomputable def impl_trim_L0 {α : Type} : Nat → Nat → List Int → (List Int → Option α) → Option α := Classical.choose impl_trim_L0.ex α
theorem impl_trim_L0.eq : @impl_trim_L0 = @impl_trim_L0.b := funext fun α => congrFun (Classical.choose_spec impl_trim_L0.ex) α
theorem impl_trim_L0.zero {α : Type} (N : Nat) (v615 : List Int) (k0 : List Int → Option α) : impl_trim_L0 N 0 v615 k0 = none := by rw [impl_trim_L0.eq]; rfl
theorem impl_trim_L0.succ {α : Type} (N n : Nat) (v615 : List Int) (k0 : List Int → Option α) : impl_trim_L0 N (n + 1) v615 k0 = impl_trim_L0r N (fun y0 => impl_trim_L0 N n y0 k0) k0 v615 := by rw [impl_trim_L0.eq]; rfl
/-- loop.example/pinfold/impl.trim -/
noncomputable def impl_trim.b {α : Type} (N : Nat) (a614 : List Int) (k0 : List Int → Option α) : Option α :=
  impl_trim_L0 N N a614
    (fun x625 =>
      k0 x625)
theorem impl_trim.ex : ∃ f : ((α : Type) → Nat → List Int → (List Int → Option α) → Option α), f = fun α => @impl_trim.b α := ⟨_, rfl⟩
noncomputable def impl_trim {α : Type} : Nat → List Int → (List Int → Option α) → Option α := Classical.choose impl_trim.ex α
theorem impl_trim.eq : @impl_trim = @impl_trim.b := funext fun α => congrFun (Classical.choose_spec impl_trim.ex) α

noncomputable def math_bits_Len64_J1.b {α : Type} (N : Nat) (v635 : Int) (v636 : Int) (k0 : Int → Int → Option α) : Option α :=
  let x637 := (decide ((4294967296 : Int) ≤ v635))
  bif x637 then
    let x638 := (shrI .u64 v635 (32 : Int))
    k0 x638 (32 : Int)
  else
    k0 v635 v636
theorem math_bits_Len64_J1.ex : ∃ f : ((α : Type) → Nat → Int → Int → (Int → Int → Option α) → Option α), f = fun α => @math_bits_Len64_J1.b α := ⟨_, rfl⟩
noncomputable def math_bits_Len64_J1 {α : Type} : Nat → Int → Int → (Int → Int → Option α) → Option α := Classical.choose math_bits_Len64_J1.ex α
theorem math_bits_Len64_J1.eq : @math_bits_Len64_J1 = @math_bits_Len64_J1.b := funext fun α => congrFun (Classical.choose_spec math_bits_Len64_J1.ex) α
noncomputable def math_bits_Len64_J4.b {α : Type} (N : Nat) (v641 : Int) (v642 : Int) (k0 : Int → Int → Option α) : Option α :=
  let x643 := (decide ((65536 : Int) ≤ v641))
  bif x643 then
    let x644 := (shrI .u64 v641 (16 : Int))
    let x645 := (IntKind.i64.wrap (v642 + (16 : Int)))
    k0 x644 x645
  else
    k0 v641 v642
theorem math_bits_Len64_J4.ex : ∃ f : ((α : Type) → Nat → Int → Int → (Int → Int → Option α) → Option α), f = fun α => @math_bits_Len64_J4.b α := ⟨_, rfl⟩
noncomputable def math_bits_Len64_J4 {α : Type} : Nat → Int → Int → (Int → Int → Option α) → Option α := Classical.choose math_bits_Len64_J4.ex α
theorem math_bits_Len64_J4.eq : @math_bits_Len64_J4 = @math_bits_Len64_J4.b := funext fun α => congrFun (Classical.choose_spec math_bits_Len64_J4.ex) α
noncomputable def math_bits_Len64_J7.b {α : Type} (N : Nat) (v648 : Int) (v649 : Int) (k0 : Int → Int → Option α) : Option α :=
  let x650 := (decide ((256 : Int) ≤ v648))
  bif x650 then
    let x651 := (shrI .u64 v648 (8 : Int))
    let x652 := (IntKind.i64.wrap (v649 + (8 : Int)))
    k0 x651 x652
  else
    k0 v648 v649
theorem math_bits_Len64_J7.ex : ∃ f : ((α : Type) → Nat → Int → Int → (Int → Int → Option α) → Option α), f = fun α => @math_bits_Len64_J7.b α := ⟨_, rfl⟩
noncomputable def math_bits_Len64_J7 {α : Type} : Nat → Int → Int → (Int → Int → Option α) → Option α := Classical.choose math_bits_Len64_J7.ex α
theorem math_bits_Len64_J7.eq : @math_bits_Len64_J7 = @math_bits_Len64_J7.b := funext fun α => congrFun (Classical.choose_spec math_bits_Len64_J7.ex) α
/-- math/bits.Len64 -/
noncomputable def math_bits_Len64.b {α : Type} (N : Nat) (a634 : Int) (k0 : Int → Option α) : Option α :=
  math_bits_Len64_J1 N a634 (0 : Int)
    (fun x639 x640 =>
      math_bits_Len64_J4 N x639 x640
        (fun x646 x647 =>
          math_bits_Len64_J7 N x646 x647
            (fun x653 x654 =>
              let x655 := IntKind.u8.wrap x653
              bif (decide (x655 < (0 : Int))) then
                none
              else
                match ((⟨#[0, 1, 2, 2, 3, 3, 3, 3, 4, 4, 4, 4, 4, 4, 4, 4, 5, 5, 5, 5, 5, 5, 5, 5, 5, 5, 5, 5, 5, 5, 5, 5, 6, 6, 6, 6, 6, 6, 6, 6, 6, 6, 6, 6, 6, 6, 6, 6, 6, 6, 6, 6, 6, 6, 6, 6, 6, 6, 6, 6, 6, 6, 6, 6, 7, 7, 7, 7, 7, 7, 7, 7, 7, 7, 7, 7, 7, 7, 7, 7, 7, 7, 7, 7, 7, 7, 7, 7, 7, 7, 7, 7, 7, 7, 7, 7, 7, 7, 7, 7, 7, 7, 7, 7, 7, 7, 7, 7, 7, 7, 7, 7, 7, 7, 7, 7, 7, 7, 7, 7, 7, 7, 7, 7, 7, 7, 7, 7, 8, 8, 8, 8, 8, 8, 8, 8, 8, 8, 8, 8, 8, 8, 8, 8, 8, 8, 8, 8, 8, 8, 8, 8, 8, 8, 8, 8, 8, 8, 8, 8, 8, 8, 8, 8, 8, 8, 8, 8, 8, 8, 8, 8, 8, 8, 8, 8, 8, 8, 8, 8, 8, 8, 8, 8, 8, 8, 8, 8, 8, 8, 8, 8, 8, 8, 8, 8, 8, 8, 8, 8, 8, 8, 8, 8, 8, 8, 8, 8, 8, 8, 8, 8, 8, 8, 8, 8, 8, 8, 8, 8, 8, 8, 8, 8, 8, 8, 8, 8, 8, 8, 8, 8, 8, 8, 8, 8, 8, 8, 8, 8, 8, 8, 8, 8, 8, 8, 8, 8, 8, 8, 8, 8, 8, 8, 8, 8]⟩ : ByteArray)[x655.toNat]? : Option UInt8) with
                | some x656 =>
                  let x657 := ((x656.toNat : Nat) : Int)
                  let x658 := IntKind.i64.wrap x657
                  let x659 := IntKind.i64.wrap (x654 + x658)
                  k0 x659
                | none => none)))
theorem math_bits_Len64.ex : ∃ f : ((α : Type) → Nat → Int → (Int → Option α) → Option α), f = fun α => @math_bits_Len64.b α := ⟨_, rfl⟩
noncomputable def math_bits_Len64 {α : Type} : Nat → Int → (Int → Option α) → Option α := Classical.choose math_bits_Len64.ex α
theorem math_bits_Len64.eq : @math_bits_Len64 = @math_bits_Len64.b := funext fun α => congrFun (Classical.choose_spec math_bits_Len64.ex) α

/-- math/bits.Len -/
noncomputable def math_bits_Len.b {α : Type} (N : Nat) (a633 : Int) (k0 : Int → Option α) : Option α :=
  math_bits_Len64 N a633
    (fun x660 =>
      k0 x660)
theorem math_bits_Len.ex : ∃ f : ((α : Type) → Nat → Int → (Int → Option α) → Option α), f = fun α => @math_bits_Len.b α := ⟨_, rfl⟩
noncomputable def math_bits_Len {α : Type} : Nat → Int → (Int → Option α) → Option α := Classical.choose math_bits_Len.ex α
theorem math_bits_Len.eq : @math_bits_Len = @math_bits_Len.b := funext fun α => congrFun (Classical.choose_spec math_bits_Len.ex) α

/-- slices.Clone[[]int,int] -/
noncomputable def slices_Clone_int_int {α : Type} (N : Nat) (a1 : List Int) (k0 : List Int → Option α) : Option α :=
  bif decide (([] : List Int).length + a1.length ≤ 8796093022208) then k0 a1 else none

noncomputable def impl_natShift_J10.b {α : Type} (N : Nat) (v739 : List Int) (v740 : Int) (v741 : Int) (v742 : Int) (v743 : Int) (v744 : Int) (v745 : List Int) (k0 : List Int → Int → Int → Int → Int → List Int → Option α) : Option α :=
  let x746 := IntKind.i64.wrap (v740 + v742)
  let x747 := (IntKind.i64.wrap (x746 + (1 : Int)))
  let x748 := ((v739.length : Nat) : Int)
  let x749 := decide (x747 < x748)
  bif x749 then
    bif (decide (v742 < (0 : Int))) then
      none
    else
      bif decide (v742.toNat < v745.length) then
        match v745[v742.toNat]? with
        | some x750 =>
          let x751 := IntKind.i64.wrap (v740 + v742)
          let x752 := (IntKind.i64.wrap (x751 + (1 : Int)))
          bif (decide (x752 < (0 : Int))) then
            none
          else
            match v739[x752.toNat]? with
            | some x753 =>
              let x754 := (IntKind.i64.wrap ((16 : Int) - v741))
              bif (decide (x754 < (0 : Int))) then
                none
              else
                let x755 := shlI .i64 x753 x754
                let x756 := (bitI .and .i64 x755 (65535 : Int))
                let x757 := bitI .or .i64 x750 x756
                bif (decide (v742 < (0 : Int))) then
                  none
                else
                  bif decide (v742.toNat < v745.length) then
                    match v745[v742.toNat]? with
                    | some x758 =>
                      let x759 := v745.set v742.toNat x757
                      k0 v739 v740 v741 v743 v744 x759
                    | none => none
                  else
                    none
            | none => none
        | none => none
      else
        none
  else
    k0 v739 v740 v741 v743 v744 v745
theorem impl_natShift_J10.ex : ∃ f : ((α : Type) → Nat → List Int → Int → Int → Int → Int → Int → List Int → (List Int → Int → Int → Int → Int → List Int → Option α) → Option α), f = fun α => @impl_natShift_J10.b α := ⟨_, rfl⟩
noncomputable def impl_natShift_J10 {α : Type} : Nat → List Int → Int → Int → Int → Int → Int → List Int → (List Int → Int → Int → Int → Int → List Int → Option α) → Option α := Classical.choose impl_natShift_J10.ex α
theorem impl_natShift_J10.eq : @impl_natShift_J10 = @impl_natShift_J10.b := funext fun α => congrFun (Classical.choose_spec impl_natShift_J10.ex) α
noncomputable def impl_natShift_L0r {α : Type} (N : Nat) (next : List Int → Int → Int → Int → Int → List Int → Option α) (k0 : List Int → Option α) (v728 : List Int) (v729 : Int) (v730 : Int) (v731 : Int) (v732 : Int) (v733 : List Int) : Option α :=
  let x734 := decide (v732 < v731)
  bif x734 then
    bif (decide (v732 < (0 : Int))) then
      none
    else
      bif decide (v732.toNat < v733.length) then
        match v733[v732.toNat]? with
        | some x735 =>
          bif (decide (v730 < (0 : Int))) then
            none
          else
            let x736 := shrI .i64 x735 v730
            bif (decide (v732 < (0 : Int))) then
              none
            else
              bif decide (v732.toNat < v733.length) then
                match v733[v732.toNat]? with
                | some x737 =>
                  let x738 := v733.set v732.toNat x736
                  impl_natShift_J10 N v728 v729 v730 v732 v731 v732 x738
                    (fun x760 x761 x762 x763 x764 x765 =>
                      let x766 := (IntKind.i64.wrap (x764 + (1 : Int)))
                      next x760 x761 x762 x763 x766 x765)
                | none => none
              else
                none
        | none => none
      else
        none
  else
    k0 v733
noncomputable def impl_natShift_L0.b {α : Type} (N n : Nat) (v728 : List Int) (v729 : Int) (v730 : Int) (v731 : Int) (v732 : Int) (v733 : List Int) (k0 : List Int → Option α) : Option α :=
  Nat.rec (motive := fun _ => List Int → Int → Int → Int → Int → List Int → Option α) (fun _ _ _ _ _ _ => none) (fun _ next => impl_natShift_L0r N next k0) n v728 v729 v730 v731 v732 v733
theorem impl_natShift_L0.ex : ∃ f : ((α : Type) → Nat → Nat → List Int → Int → Int → Int → Int → List Int → (List Int → Option α) → Option α), f = fun α => @impl_natShift_L0.b α := ⟨_, rfl⟩
noncomputable def impl_natShift_L0 {α : Type} : Nat → Nat → List Int → Int → Int → Int → Int → List Int → (List Int → Option α) → Option α := Classical.choose impl_natShift_L0.ex α
theorem impl_natShift_L0.eq : @impl_natShift_L0 = @impl_natShift_L0.b := funext fun α => congrFun (Classical.choose_spec impl_natShift_L0.ex) α
theorem impl_natShift_L0.zero {α : Type} (N : Nat) (v728 : List Int) (v729 : Int) (v730 : Int) (v731 : Int) (v732 : Int) (v733 : List Int) (k0 : List Int → Option α) : impl_natShift_L0 N 0 v728 v729 v730 v731 v732 v733 k0 = none := by rw [impl_natShift_L0.eq]; rfl
theorem impl_natShift_L0.succ {α : Type} (N n : Nat) (v728 : List Int) (v729 : Int) (v730 : Int) (v731 : Int) (v732 : Int) (v733 : List Int) (k0 : List Int → Option α) : impl_natShift_L0 N (n + 1) v728 v729 v730 v731 v732 v733 k0 = impl_natShift_L0r N (fun y0 y1 y2 y3 y4 y5 => impl_natShift_L0 N n y0 y1 y2 y3 y4 y5 k0) k0 v728 v729 v730 v731 v732 v733 := by rw [impl_natShift_L0.eq]; rfl
noncomputable def impl_natShift_L2r {α : Type} (N : Nat) (next : Int → List Int → Int → Int → List Int → Option α) (k0 : List Int → Option α) (v775 : Int) (v776 : List Int) (v777 : Int) (v778 : Int) (v779 : List Int) : Option α :=
  let x780 := decide (v778 < v777)
  bif x780 then
    bif (decide (v778 < (0 : Int))) then
      none
    else
      match v776[v778.toNat]? with
      | some x781 =>
        let x782 := (Int.tmod v775 (16 : Int))
        bif (decide (x782 < (0 : Int))) then
          none
        else
          let x783 := shlI .i64 x781 x782
          let x784 := (IntKind.i64.wrap (Int.tdiv v775 (16 : Int)))
          let x785 := IntKind.i64.wrap (x784 + v778)
          bif (decide (x785 < (0 : Int))) then
            none
          else
            bif decide (x785.toNat < v779.length) then
              match v779[x785.toNat]? with
              | some x786 =>
                let x787 := (bitI .and .i64 x783 (65535 : Int))
                let x788 := bitI .or .i64 x786 x787
                bif (decide (x785 < (0 : Int))) then
                  none
                else
                  bif decide (x785.toNat < v779.length) then
                    match v779[x785.toNat]? with
                    | some x789 =>
                      let x790 := v779.set x785.toNat x788
                      let x791 := (IntKind.i64.wrap (Int.tdiv v775 (16 : Int)))
                      let x792 := IntKind.i64.wrap (x791 + v778)
                      let x793 := (IntKind.i64.wrap (x792 + (1 : Int)))
                      let x794 := (shrI .i64 x783 (16 : Int))
                      bif (decide (x793 < (0 : Int))) then
                        none
                      else
                        bif decide (x793.toNat < x790.length) then
                          match x790[x793.toNat]? with
                          | some x795 =>
                            let x796 := x790.set x793.toNat x794
                            let x797 := (IntKind.i64.wrap (v778 + (1 : Int)))
                            next v775 v776 v777 x797 x796
                          | none => none
                        else
                          none
                    | none => none
                  else
                    none
              | none => none
            else
              none
      | none => none
  else
    k0 v779
noncomputable def impl_natShift_L2.b {α : Type} (N n : Nat) (v775 : Int) (v776 : List Int) (v777 : Int) (v778 : Int) (v779 : List Int) (k0 : List Int → Option α) : Option α :=
  Nat.rec (motive := fun _ => Int → List Int → Int → Int → List Int → Option α) (fun _ _ _ _ _ => none) (fun _ next => impl_natShift_L2r N next k0) n v775 v776 v777 v778 v779
theorem impl_natShift_L2.ex : ∃ f : ((α : Type) → Nat → Nat → Int → List Int → Int → Int → List Int → (List Int → Option α) → Option α), f = fun α => @impl_natShift_L2.b α := ⟨_, rfl⟩
noncomputable def impl_natShift_L2 {α : Type} : Nat → Nat → Int → List Int → Int → Int → List Int → (List Int → Option α) → Option α := Classical.choose impl_natShift_L2.ex α
theorem impl_natShift_L2.eq : @impl_natShift_L2 = @impl_natShift_L2.b := funext fun α => congrFun (Classical.choose_spec impl_natShift_L2.ex) α
theorem impl_natShift_L2.zero {α : Type} (N : Nat) (v775 : Int) (v776 : List Int) (v777 : Int) (v778 : Int) (v779 : List Int) (k0 : List Int → Option α) : impl_natShift_L2 N 0 v775 v776 v777 v778 v779 k0 = none := by rw [impl_natShift_L2.eq]; rfl
theorem impl_natShift_L2.succ {α : Type} (N n : Nat) (v775 : Int) (v776 : List Int) (v777 : Int) (v778 : Int) (v779 : List Int) (k0 : List Int → Option α) : impl_natShift_L2 N (n + 1) v775 v776 v777 v778 v779 k0 = impl_natShift_L2r N (fun y0 y1 y2 y3 y4 => impl_natShift_L2 N n y0 y1 y2 y3 y4 k0) k0 v775 v776 v777 v778 v779 := by rw [impl_natShift_L2.eq]; rfl
/-- loop.example/pinfold/impl.natShift -/
noncomputable def impl_natShift.b {α : Type} (N : Nat) (a716 : List Int) (a717 : Int) (k0 : List Int → Option α) : Option α :=
  let x718 := (decide (a717 < (0 : Int)))
  bif x718 then
    let x719 := IntKind.i64.wrap (0 - a717)
    let x720 := (IntKind.i64.wrap (Int.tdiv x719 (16 : Int)))
    let x721 := IntKind.i64.wrap (0 - a717)
    let x722 := (Int.tmod x721 (16 : Int))
    let x723 := ((a716.length : Nat) : Int)
    let x724 := decide (x723 ≤ x720)
    bif x724 then
      k0 []
    else
      bif (decide ((0 : Int) ≤ x720)) then
        bif (decide (x720 ≤ ((a716.length : Nat) : Int))) then
          let x725 := a716.drop x720.toNat
          slices_Clone_int_int N x725
            (fun x726 =>
              let x727 := ((x726.length : Nat) : Int)
              impl_natShift_L0 N N a716 x720 x722 x727 (0 : Int) x726
                (fun x767 =>
                  impl_trim N x767
                    (fun x768 =>
                      k0 x768)))
        else
          none
      else
        none
  else
    let x769 := (IntKind.i64.wrap (Int.tdiv a717 (16 : Int)))
    let x770 := ((a716.length : Nat) : Int)
    let x771 := IntKind.i64.wrap (x769 + x770)
    let x772 := (IntKind.i64.wrap (x771 + (1 : Int)))
    bif (decide ((0 : Int) ≤ x772)) then
      bif decide (x772 ≤ x772) then
        bif (decide (x772 ≤ ((8796093022208 : Nat) : Int))) then
          let x773 := (List.replicate x772.toNat (0 : Int))
          let x774 := ((a716.length : Nat) : Int)
          impl_natShift_L2 N N a717 a716 x774 (0 : Int) x773
            (fun x798 =>
              impl_trim N x798
                (fun x799 =>
                  k0 x799))
        else
          none
      else
        none
    else
      none
theorem impl_natShift.ex : ∃ f : ((α : Type) → Nat → List Int → Int → (List Int → Option α) → Option α), f = fun α => @impl_natShift.b α := ⟨_, rfl⟩
noncomputable def impl_natShift {α : Type} : Nat → List Int → Int → (List Int → Option α) → Option α := Classical.choose impl_natShift.ex α
theorem impl_natShift.eq : @impl_natShift = @impl_natShift.b := funext fun α => congrFun (Classical.choose_spec impl_natShift.ex) α

noncomputable def impl_natDiv_L0r {α : Type} (N : Nat) (next : List Int → List Int → Int → Int → List Int → Option α) (k0 : Int → List Int → Option α) (v596 : List Int) (v597 : List Int) (v598 : Int) (v599 : Int) (v600 : List Int) : Option α :=
  let x601 := (decide ((0 : Int) ≤ v599))
  bif x601 then
    let x602 := (shlI .i64 v598 (16 : Int))
    bif (decide (v599 < (0 : Int))) then
      none
    else
      match v596[v599.toNat]? with
      | some x603 =>
        let x604 := bitI .or .i64 x602 x603
        match v597[0]? with
        | some x605 =>
          bif (decide (x605 = (0 : Int))) then
            none
          else
            let x606 := IntKind.i64.wrap (Int.tdiv x604 x605)
            match v597[0]? with
            | some x607 =>
              bif (decide (x607 = (0 : Int))) then
                none
              else
                let x608 := Int.tmod x604 x607
                bif (decide (v599 < (0 : Int))) then
                  none
                else
                  bif decide (v599.toNat < v600.length) then
                    match v600[v599.toNat]? with
                    | some x609 =>
                      let x610 := v600.set v599.toNat x606
                      let x611 := (IntKind.i64.wrap (v599 - (1 : Int)))
                      next v596 v597 x608 x611 x610
                    | none => none
                  else
                    none
            | none => none
        | none => none
      | none => none
  else
    k0 v598 v600
noncomputable def impl_natDiv_L0.b {α : Type} (N n : Nat) (v596 : List Int) (v597 : List Int) (v598 : Int) (v599 : Int) (v600 : List Int) (k0 : Int → List Int → Option α) : Option α :=
  Nat.rec (motive := fun _ => List Int → List Int → Int → Int → List Int → Option α) (fun _ _ _ _ _ => none) (fun _ next => impl_natDiv_L0r N next k0) n v596 v597 v598 v599 v600
theorem impl_natDiv_L0.ex : ∃ f : ((α : Type) → Nat → Nat → List Int → List Int → Int → Int → List Int → (Int → List Int → Option α) → Option α), f = fun α => @impl_natDiv_L0.b α := ⟨_, rfl⟩
noncomputable def impl_natDiv_L0 {α : Type} : Nat → Nat → List Int → List Int → Int → Int → List Int → (Int → List Int → Option α) → Option α := Classical.choose impl_natDiv_L0.ex α
theorem impl_natDiv_L0.eq : @impl_natDiv_L0 = @impl_natDiv_L0.b := funext fun α => congrFun (Classical.choose_spec impl_natDiv_L0.ex) α
theorem impl_natDiv_L0.zero {α : Type} (N : Nat) (v596 : List Int) (v597 : List Int) (v598 : Int) (v599 : Int) (v600 : List Int) (k0 : Int → List Int → Option α) : impl_natDiv_L0 N 0 v596 v597 v598 v599 v600 k0 = none := by rw [impl_natDiv_L0.eq]; rfl
theorem impl_natDiv_L0.succ {α : Type} (N n : Nat) (v596 : List Int) (v597 : List Int) (v598 : Int) (v599 : Int) (v600 : List Int) (k0 : Int → List Int → Option α) : impl_natDiv_L0 N (n + 1) v596 v597 v598 v599 v600 k0 = impl_natDiv_L0r N (fun y0 y1 y2 y3 y4 => impl_natDiv_L0 N n y0 y1 y2 y3 y4 k0) k0 v596 v597 v598 v599 v600 := by rw [impl_natDiv_L0.eq]; rfl
noncomputable def impl_natDiv_L2r {α : Type} (N : Nat) (next : List Int → Int → List Int → Int → List Int → Option α) (k0 : Int → List Int → Int → List Int → Option α) (v806 : List Int) (v807 : Int) (v808 : List Int) (v809 : Int) (v810 : List Int) : Option α :=
  let x811 := ((v810.length : Nat) : Int)
  let x812 := ((v806.length : Nat) : Int)
  let x813 := (IntKind.i64.wrap (x812 + (1 : Int)))
  let x814 := decide (x811 < x813)
  bif x814 then
    let x815 := [(0 : Int)]
    bif decide (v810.length + x815.length ≤ 8796093022208) then
      let x816 := v810 ++ x815
      next v806 v807 v808 v809 x816
    else
      none
  else
    k0 v807 v808 v809 v810
noncomputable def impl_natDiv_L2.b {α : Type} (N n : Nat) (v806 : List Int) (v807 : Int) (v808 : List Int) (v809 : Int) (v810 : List Int) (k0 : Int → List Int → Int → List Int → Option α) : Option α :=
  Nat.rec (motive := fun _ => List Int → Int → List Int → Int → List Int → Option α) (fun _ _ _ _ _ => none) (fun _ next => impl_natDiv_L2r N next k0) n v806 v807 v808 v809 v810
theorem impl_natDiv_L2.ex : ∃ f : ((α : Type) → Nat → Nat → List Int → Int → List Int → Int → List Int → (Int → List Int → Int → List Int → Option α) → Option α), f = fun α => @impl_natDiv_L2.b α := ⟨_, rfl⟩
noncomputable def impl_natDiv_L2 {α : Type} : Nat → Nat → List Int → Int → List Int → Int → List Int → (Int → List Int → Int → List Int → Option α) → Option α := Classical.choose impl_natDiv_L2.ex α
theorem impl_natDiv_L2.eq : @impl_natDiv_L2 = @impl_natDiv_L2.b := funext fun α => congrFun (Classical.choose_spec impl_natDiv_L2.ex) α
theorem impl_natDiv_L2.zero {α : Type} (N : Nat) (v806 : List Int) (v807 : Int) (v808 : List Int) (v809 : Int) (v810 : List Int) (k0 : Int → List Int → Int → List Int → Option α) : impl_natDiv_L2 N 0 v806 v807 v808 v809 v810 k0 = none := by rw [impl_natDiv_L2.eq]; rfl
theorem impl_natDiv_L2.succ {α : Type} (N n : Nat) (v806 : List Int) (v807 : Int) (v808 : List Int) (v809 : Int) (v810 : List Int) (k0 : Int → List Int → Int → List Int → Option α) : impl_natDiv_L2 N (n + 1) v806 v807 v808 v809 v810 k0 = impl_natDiv_L2r N (fun y0 y1 y2 y3 y4 => impl_natDiv_L2 N n y0 y1 y2 y3 y4 k0) k0 v806 v807 v808 v809 v810 := by rw [impl_natDiv_L2.eq]; rfl
noncomputable def impl_natDiv_L6r {α : Type} (N : Nat) (next : Int → List Int → Int → Int → Int → Int → List Int → List Int → Option α) (k0 : Int → List Int → Int → Int → Int → List Int → List Int → Option α) (v847 : Int) (v848 : List Int) (v849 : Int) (v850 : Int) (v851 : Int) (v852 : Int) (v853 : List Int) (v854 : List Int) : Option α :=
  let x855 := (decide ((65536 : Int) ≤ v851))
  bif x855 then
    let x856 := (IntKind.i64.wrap (v851 - (1 : Int)))
    let x857 := (IntKind.i64.wrap (v849 - (1 : Int)))
    bif (decide (x857 < (0 : Int))) then
      none
    else
      match v848[x857.toNat]? with
      | some x858 =>
        let x859 := IntKind.i64.wrap (v852 + x858)
        let x860 := (decide ((65536 : Int) ≤ x859))
        bif x860 then
          k0 v847 v848 v849 v850 x856 v853 v854
        else
          next v847 v848 v849 v850 x856 x859 v853 v854
      | none => none
  else
    let x861 := (IntKind.i64.wrap (v849 - (2 : Int)))
    bif (decide (x861 < (0 : Int))) then
      none
    else
      match v848[x861.toNat]? with
      | some x862 =>
        let x863 := IntKind.i64.wrap (v851 * x862)
        let x864 := (shlI .i64 v852 (16 : Int))
        let x865 := IntKind.i64.wrap (v850 + v849)
        let x866 := (IntKind.i64.wrap (x865 - (2 : Int)))
        bif (decide (x866 < (0 : Int))) then
          none
        else
          bif decide (x866.toNat < v853.length) then
            match v853[x866.toNat]? with
            | some x867 =>
              let x868 := bitI .or .i64 x864 x867
              let x869 := decide (x868 < x863)
              bif x869 then
                let x870 := (IntKind.i64.wrap (v851 - (1 : Int)))
                let x871 := (IntKind.i64.wrap (v849 - (1 : Int)))
                bif (decide (x871 < (0 : Int))) then
                  none
                else
                  match v848[x871.toNat]? with
                  | some x872 =>
                    let x873 := IntKind.i64.wrap (v852 + x872)
                    let x874 := (decide ((65536 : Int) ≤ x873))
                    bif x874 then
                      k0 v847 v848 v849 v850 x870 v853 v854
                    else
                      next v847 v848 v849 v850 x870 x873 v853 v854
                  | none => none
              else
                k0 v847 v848 v849 v850 v851 v853 v854
            | none => none
          else
            none
      | none => none
noncomputable def impl_natDiv_L6.b {α : Type} (N n : Nat) (v847 : Int) (v848 : List Int) (v849 : Int) (v850 : Int) (v851 : Int) (v852 : Int) (v853 : List Int) (v854 : List Int) (k0 : Int → List Int → Int → Int → Int → List Int → List Int → Option α) : Option α :=
  Nat.rec (motive := fun _ => Int → List Int → Int → Int → Int → Int → List Int → List Int → Option α) (fun _ _ _ _ _ _ _ _ => none) (fun _ next => impl_natDiv_L6r N next k0) n v847 v848 v849 v850 v851 v852 v853 v854
theorem impl_natDiv_L6.ex : ∃ f : ((α : Type) → Nat → Nat → Int → List Int → Int → Int → Int → Int → List Int → List Int → (Int → List Int → Int → Int → Int → List Int → List Int → Option α) → Option α), f = fun α => @impl_natDiv_L6.b α := ⟨_, rfl⟩
noncomputable def impl_natDiv_L6 {α : Type} : Nat → Nat → Int → List Int → Int → Int → Int → Int → List Int → List Int → (Int → List Int → Int → Int → Int → List Int → List Int → Option α) → Option α := Classical.choose impl_natDiv_L6.ex α
theorem impl_natDiv_L6.eq : @impl_natDiv_L6 = @impl_natDiv_L6.b := funext fun α => congrFun (Classical.choose_spec impl_natDiv_L6.ex) α
theorem impl_natDiv_L6.zero {α : Type} (N : Nat) (v847 : Int) (v848 : List Int) (v849 : Int) (v850 : Int) (v851 : Int) (v852 : Int) (v853 : List Int) (v854 : List Int) (k0 : Int → List Int → Int → Int → Int → List Int → List Int → Option α) : impl_natDiv_L6 N 0 v847 v848 v849 v850 v851 v852 v853 v854 k0 = none := by rw [impl_natDiv_L6.eq]; rfl
theorem impl_natDiv_L6.succ {α : Type} (N n : Nat) (v847 : Int) (v848 : List Int) (v849 : Int) (v850 : Int) (v851 : Int) (v852 : Int) (v853 : List Int) (v854 : List Int) (k0 : Int → List Int → Int → Int → Int → List Int → List Int → Option α) : impl_natDiv_L6 N (n + 1) v847 v848 v849 v850 v851 v852 v853 v854 k0 = impl_natDiv_L6r N (fun y0 y1 y2 y3 y4 y5 y6 y7 => impl_natDiv_L6 N n y0 y1 y2 y3 y4 y5 y6 y7 k0) k0 v847 v848 v849 v850 v851 v852 v853 v854 := by rw [impl_natDiv_L6.eq]; rfl
noncomputable def impl_natDiv_J34.b {α : Type} (N : Nat) (v901 : Int) (v902 : List Int) (v903 : Int) (v904 : Int) (v905 : Int) (v906 : Int) (v907 : Int) (v908 : Int) (v909 : List Int) (v910 : Int) (v911 : Int) (v912 : List Int) (v913 : List Int) (k0 : Int → List Int → Int → Int → Int → Int → Int → Int → List Int → Int → Int → List Int → List Int → Option α) : Option α :=
  let x914 := (decide (v908 < (0 : Int)))
  bif x914 then
    let x915 := IntKind.i64.wrap (0 - v908)
    let x916 := (IntKind.i64.wrap (x915 + (65536 : Int)))
    let x917 := (IntKind.i64.wrap (x916 - (1 : Int)))
    let x918 := (IntKind.i64.wrap (Int.tdiv x917 (65536 : Int)))
    let x919 := (IntKind.i64.wrap (x918 * (65536 : Int)))
    let x920 := IntKind.i64.wrap (v908 + x919)
    k0 v901 v902 v903 v904 v905 x918 v907 x920 v909 v910 v911 v912 v913
  else
    k0 v901 v902 v903 v904 v905 v906 v907 v908 v909 v910 v911 v912 v913
theorem impl_natDiv_J34.ex : ∃ f : ((α : Type) → Nat → Int → List Int → Int → Int → Int → Int → Int → Int → List Int → Int → Int → List Int → List Int → (Int → List Int → Int → Int → Int → Int → Int → Int → List Int → Int → Int → List Int → List Int → Option α) → Option α), f = fun α => @impl_natDiv_J34.b α := ⟨_, rfl⟩
noncomputable def impl_natDiv_J34 {α : Type} : Nat → Int → List Int → Int → Int → Int → Int → Int → Int → List Int → Int → Int → List Int → List Int → (Int → List Int → Int → Int → Int → Int → Int → Int → List Int → Int → Int → List Int → List Int → Option α) → Option α := Classical.choose impl_natDiv_J34.ex α
theorem impl_natDiv_J34.eq : @impl_natDiv_J34 = @impl_natDiv_J34.b := funext fun α => congrFun (Classical.choose_spec impl_natDiv_J34.ex) α
noncomputable def impl_natDiv_L8r {α : Type} (N : Nat) (next : Int → List Int → Int → Int → Int → Int → List Int → Int → Int → List Int → List Int → Option α) (k0 : Int → List Int → Int → Int → Int → Int → List Int → List Int → Option α) (v883 : Int) (v884 : List Int) (v885 : Int) (v886 : Int) (v887 : Int) (v888 : Int) (v889 : List Int) (v890 : Int) (v891 : Int) (v892 : List Int) (v893 : List Int) : Option α :=
  let x894 := decide (v891 < v890)
  bif x894 then
    bif (decide (v891 < (0 : Int))) then
      none
    else
      match v889[v891.toNat]? with
      | some x895 =>
        let x896 := IntKind.i64.wrap (v886 + v891)
        bif (decide (x896 < (0 : Int))) then
          none
        else
          bif decide (x896.toNat < v892.length) then
            match v892[x896.toNat]? with
            | some x897 =>
              let x898 := IntKind.i64.wrap (x897 - v888)
              let x899 := IntKind.i64.wrap (v887 * x895)
              let x900 := IntKind.i64.wrap (x898 - x899)
              impl_natDiv_J34 N v883 v884 v885 v886 v887 (0 : Int) v891 x900 v889 v890 v891 v892 v893
                (fun x921 x922 x923 x924 x925 x926 x927 x928 x929 x930 x931 x932 x933 =>
                  let x934 := IntKind.i64.wrap (x924 + x927)
                  bif (decide (x934 < (0 : Int))) then
                    none
                  else
                    bif decide (x934.toNat < x932.length) then
                      match x932[x934.toNat]? with
                      | some x935 =>
                        let x936 := x932.set x934.toNat x928
                        let x937 := (IntKind.i64.wrap (x931 + (1 : Int)))
                        next x921 x922 x923 x924 x925 x926 x929 x930 x937 x936 x933
                      | none => none
                    else
                      none)
            | none => none
          else
            none
      | none => none
  else
    k0 v883 v884 v885 v886 v887 v888 v892 v893
noncomputable def impl_natDiv_L8.b {α : Type} (N n : Nat) (v883 : Int) (v884 : List Int) (v885 : Int) (v886 : Int) (v887 : Int) (v888 : Int) (v889 : List Int) (v890 : Int) (v891 : Int) (v892 : List Int) (v893 : List Int) (k0 : Int → List Int → Int → Int → Int → Int → List Int → List Int → Option α) : Option α :=
  Nat.rec (motive := fun _ => Int → List Int → Int → Int → Int → Int → List Int → Int → Int → List Int → List Int → Option α) (fun _ _ _ _ _ _ _ _ _ _ _ => none) (fun _ next => impl_natDiv_L8r N next k0) n v883 v884 v885 v886 v887 v888 v889 v890 v891 v892 v893
theorem impl_natDiv_L8.ex : ∃ f : ((α : Type) → Nat → Nat → Int → List Int → Int → Int → Int → Int → List Int → Int → Int → List Int → List Int → (Int → List Int → Int → Int → Int → Int → List Int → List Int → Option α) → Option α), f = fun α => @impl_natDiv_L8.b α := ⟨_, rfl⟩
noncomputable def impl_natDiv_L8 {α : Type} : Nat → Nat → Int → List Int → Int → Int → Int → Int → List Int → Int → Int → List Int → List Int → (Int → List Int → Int → Int → Int → Int → List Int → List Int → Option α) → Option α := Classical.choose impl_natDiv_L8.ex α
theorem impl_natDiv_L8.eq : @impl_natDiv_L8 = @impl_natDiv_L8.b := funext fun α => congrFun (Classical.choose_spec impl_natDiv_L8.ex) α
theorem impl_natDiv_L8.zero {α : Type} (N : Nat) (v883 : Int) (v884 : List Int) (v885 : Int) (v886 : Int) (v887 : Int) (v888 : Int) (v889 : List Int) (v890 : Int) (v891 : Int) (v892 : List Int) (v893 : List Int) (k0 : Int → List Int → Int → Int → Int → Int → List Int → List Int → Option α) : impl_natDiv_L8 N 0 v883 v884 v885 v886 v887 v888 v889 v890 v891 v892 v893 k0 = none := by rw [impl_natDiv_L8.eq]; rfl
theorem impl_natDiv_L8.succ {α : Type} (N n : Nat) (v883 : Int) (v884 : List Int) (v885 : Int) (v886 : Int) (v887 : Int) (v888 : Int) (v889 : List Int) (v890 : Int) (v891 : Int) (v892 : List Int) (v893 : List Int) (k0 : Int → List Int → Int → Int → Int → Int → List Int → List Int → Option α) : impl_natDiv_L8 N (n + 1) v883 v884 v885 v886 v887 v888 v889 v890 v891 v892 v893 k0 = impl_natDiv_L8r N (fun y0 y1 y2 y3 y4 y5 y6 y7 y8 y9 y10 => impl_natDiv_L8 N n y0 y1 y2 y3 y4 y5 y6 y7 y8 y9 y10 k0) k0 v883 v884 v885 v886 v887 v888 v889 v890 v891 v892 v893 := by rw [impl_natDiv_L8.eq]; rfl
noncomputable def impl_natDiv_L10r {α : Type} (N : Nat) (next : Int → List Int → Int → Int → Int → Int → List Int → Int → Int → List Int → List Int → Option α) (k0 : Int → List Int → Int → Int → Int → Int → List Int → List Int → Option α) (v963 : Int) (v964 : List Int) (v965 : Int) (v966 : Int) (v967 : Int) (v968 : Int) (v969 : List Int) (v970 : Int) (v971 : Int) (v972 : List Int) (v973 : List Int) : Option α :=
  let x974 := decide (v971 < v970)
  bif x974 then
    bif (decide (v971 < (0 : Int))) then
      none
    else
      match v969[v971.toNat]? with
      | some x975 =>
        let x976 := IntKind.i64.wrap (v966 + v971)
        bif (decide (x976 < (0 : Int))) then
          none
        else
          bif decide (x976.toNat < v972.length) then
            match v972[x976.toNat]? with
            | some x977 =>
              let x978 := IntKind.i64.wrap (x977 + x975)
              let x979 := IntKind.i64.wrap (x978 + v968)
              let x980 := IntKind.i64.wrap (v966 + v971)
              let x981 := (bitI .and .i64 x979 (65535 : Int))
              let x982 := (shrI .i64 x979 (16 : Int))
              bif (decide (x980 < (0 : Int))) then
                none
              else
                bif decide (x980.toNat < v972.length) then
                  match v972[x980.toNat]? with
                  | some x983 =>
                    let x984 := v972.set x980.toNat x981
                    let x985 := (IntKind.i64.wrap (v971 + (1 : Int)))
                    next v963 v964 v965 v966 v967 x982 v969 v970 x985 x984 v973
                  | none => none
                else
                  none
            | none => none
          else
            none
      | none => none
  else
    k0 v963 v964 v965 v966 v967 v968 v972 v973
noncomputable def impl_natDiv_L10.b {α : Type} (N n : Nat) (v963 : Int) (v964 : List Int) (v965 : Int) (v966 : Int) (v967 : Int) (v968 : Int) (v969 : List Int) (v970 : Int) (v971 : Int) (v972 : List Int) (v973 : List Int) (k0 : Int → List Int → Int → Int → Int → Int → List Int → List Int → Option α) : Option α :=
  Nat.rec (motive := fun _ => Int → List Int → Int → Int → Int → Int → List Int → Int → Int → List Int → List Int → Option α) (fun _ _ _ _ _ _ _ _ _ _ _ => none) (fun _ next => impl_natDiv_L10r N next k0) n v963 v964 v965 v966 v967 v968 v969 v970 v971 v972 v973
theorem impl_natDiv_L10.ex : ∃ f : ((α : Type) → Nat → Nat → Int → List Int → Int → Int → Int → Int → List Int → Int → Int → List Int → List Int → (Int → List Int → Int → Int → Int → Int → List Int → List Int → Option α) → Option α), f = fun α => @impl_natDiv_L10.b α := ⟨_, rfl⟩
noncomputable def impl_natDiv_L10 {α : Type} : Nat → Nat → Int → List Int → Int → Int → Int → Int → List Int → Int → Int → List Int → List Int → (Int → List Int → Int → Int → Int → Int → List Int → List Int → Option α) → Option α := Classical.choose impl_natDiv_L10.ex α
theorem impl_natDiv_L10.eq : @impl_natDiv_L10 = @impl_natDiv_L10.b := funext fun α => congrFun (Classical.choose_spec impl_natDiv_L10.ex) α
theorem impl_natDiv_L10.zero {α : Type} (N : Nat) (v963 : Int) (v964 : List Int) (v965 : Int) (v966 : Int) (v967 : Int) (v968 : Int) (v969 : List Int) (v970 : Int) (v971 : Int) (v972 : List Int) (v973 : List Int) (k0 : Int → List Int → Int → Int → Int → Int → List Int → List Int → Option α) : impl_natDiv_L10 N 0 v963 v964 v965 v966 v967 v968 v969 v970 v971 v972 v973 k0 = none := by rw [impl_natDiv_L10.eq]; rfl
theorem impl_natDiv_L10.succ {α : Type} (N n : Nat) (v963 : Int) (v964 : List Int) (v965 : Int) (v966 : Int) (v967 : Int) (v968 : Int) (v969 : List Int) (v970 : Int) (v971 : Int) (v972 : List Int) (v973 : List Int) (k0 : Int → List Int → Int → Int → Int → Int → List Int → List Int → Option α) : impl_natDiv_L10 N (n + 1) v963 v964 v965 v966 v967 v968 v969 v970 v971 v972 v973 k0 = impl_natDiv_L10r N (fun y0 y1 y2 y3 y4 y5 y6 y7 y8 y9 y10 => impl_natDiv_L10 N n y0 y1 y2 y3 y4 y5 y6 y7 y8 y9 y10 k0) k0 v963 v964 v965 v966 v967 v968 v969 v970 v971 v972 v973 := by rw [impl_natDiv_L10.eq]; rfl
noncomputable def impl_natDiv_J40.b {α : Type} (N : Nat) (v951 : Int) (v952 : List Int) (v953 : Int) (v954 : Int) (v955 : Int) (v956 : List Int) (v957 : List Int) (k0 : Int → List Int → Int → Int → Int → List Int → List Int → Option α) : Option α :=
  let x958 := IntKind.i64.wrap (v954 + v953)
  bif (decide (x958 < (0 : Int))) then
    none
  else
    bif decide (x958.toNat < v956.length) then
      match v956[x958.toNat]? with
      | some x959 =>
        let x960 := (decide (x959 < (0 : Int)))
        bif x960 then
          let x961 := (IntKind.i64.wrap (v955 - (1 : Int)))
          let x962 := ((v952.length : Nat) : Int)
          impl_natDiv_L10 N N v951 v952 v953 v954 x961 (0 : Int) v952 x962 (0 : Int) v956 v957
            (fun x986 x987 x988 x989 x990 x991 x992 x993 =>
              let x994 := IntKind.i64.wrap (x989 + x988)
              bif (decide (x994 < (0 : Int))) then
                none
              else
                bif decide (x994.toNat < x992.length) then
                  match x992[x994.toNat]? with
                  | some x995 =>
                    let x996 := IntKind.i64.wrap (x995 + x991)
                    bif (decide (x994 < (0 : Int))) then
                      none
                    else
                      bif decide (x994.toNat < x992.length) then
                        match x992[x994.toNat]? with
                        | some x997 =>
                          let x998 := x992.set x994.toNat x996
                          k0 x986 x987 x988 x989 x990 x998 x993
                        | none => none
                      else
                        none
                  | none => none
                else
                  none)
        else
          k0 v951 v952 v953 v954 v955 v956 v957
      | none => none
    else
      none
theorem impl_natDiv_J40.ex : ∃ f : ((α : Type) → Nat → Int → List Int → Int → Int → Int → List Int → List Int → (Int → List Int → Int → Int → Int → List Int → List Int → Option α) → Option α), f = fun α => @impl_natDiv_J40.b α := ⟨_, rfl⟩
noncomputable def impl_natDiv_J40 {α : Type} : Nat → Int → List Int → Int → Int → Int → List Int → List Int → (Int → List Int → Int → Int → Int → List Int → List Int → Option α) → Option α := Classical.choose impl_natDiv_J40.ex α
theorem impl_natDiv_J40.eq : @impl_natDiv_J40 = @impl_natDiv_J40.b := funext fun α => congrFun (Classical.choose_spec impl_natDiv_J40.ex) α
noncomputable def impl_natDiv_L4r {α : Type} (N : Nat) (next : Int → List Int → Int → Int → List Int → List Int → Option α) (k0 : Int → List Int → List Int → Option α) (v827 : Int) (v828 : List Int) (v829 : Int) (v830 : Int) (v831 : List Int) (v832 : List Int) : Option α :=
  let x833 := (decide ((0 : Int) ≤ v830))
  bif x833 then
    let x834 := IntKind.i64.wrap (v830 + v829)
    bif (decide (x834 < (0 : Int))) then
      none
    else
      bif decide (x834.toNat < v831.length) then
        match v831[x834.toNat]? with
        | some x835 =>
          let x836 := (shlI .i64 x835 (16 : Int))
          let x837 := IntKind.i64.wrap (v830 + v829)
          let x838 := (IntKind.i64.wrap (x837 - (1 : Int)))
          bif (decide (x838 < (0 : Int))) then
            none
          else
            bif decide (x838.toNat < v831.length) then
              match v831[x838.toNat]? with
              | some x839 =>
                let x840 := bitI .or .i64 x836 x839
                let x841 := (IntKind.i64.wrap (v829 - (1 : Int)))
                bif (decide (x841 < (0 : Int))) then
                  none
                else
                  match v828[x841.toNat]? with
                  | some x842 =>
                    bif (decide (x842 = (0 : Int))) then
                      none
                    else
                      let x843 := IntKind.i64.wrap (Int.tdiv x840 x842)
                      let x844 := (IntKind.i64.wrap (v829 - (1 : Int)))
                      bif (decide (x844 < (0 : Int))) then
                        none
                      else
                        match v828[x844.toNat]? with
                        | some x845 =>
                          bif (decide (x845 = (0 : Int))) then
                            none
                          else
                            let x846 := Int.tmod x840 x845
                            impl_natDiv_L6 N N v827 v828 v829 v830 x843 x846 v831 v832
                              (fun x875 x876 x877 x878 x879 x880 x881 =>
                                let x882 := ((x876.length : Nat) : Int)
                                impl_natDiv_L8 N N x875 x876 x877 x878 x879 (0 : Int) x876 x882 (0 : Int) x880 x881
                                  (fun x938 x939 x940 x941 x942 x943 x944 x945 =>
                                    let x946 := IntKind.i64.wrap (x941 + x940)
                                    bif (decide (x946 < (0 : Int))) then
                                      none
                                    else
                                      bif decide (x946.toNat < x944.length) then
                                        match x944[x946.toNat]? with
                                        | some x947 =>
                                          let x948 := IntKind.i64.wrap (x947 - x943)
                                          bif (decide (x946 < (0 : Int))) then
                                            none
                                          else
                                            bif decide (x946.toNat < x944.length) then
                                              match x944[x946.toNat]? with
                                              | some x949 =>
                                                let x950 := x944.set x946.toNat x948
                                                impl_natDiv_J40 N x938 x939 x940 x941 x942 x950 x945
                                                  (fun x999 x1000 x1001 x1002 x1003 x1004 x1005 =>
                                                    bif (decide (x1002 < (0 : Int))) then
                                                      none
                                                    else
                                                      bif decide (x1002.toNat < x1005.length) then
                                                        match x1005[x1002.toNat]? with
                                                        | some x1006 =>
                                                          let x1007 := x1005.set x1002.toNat x1003
                                                          let x1008 := (IntKind.i64.wrap (x1002 - (1 : Int)))
                                                          next x999 x1000 x1001 x1008 x1004 x1007
                                                        | none => none
                                                      else
                                                        none)
                                              | none => none
                                            else
                                              none
                                        | none => none
                                      else
                                        none))
                        | none => none
                  | none => none
              | none => none
            else
              none
        | none => none
      else
        none
  else
    k0 v827 v831 v832
noncomputable def impl_natDiv_L4.b {α : Type} (N n : Nat) (v827 : Int) (v828 : List Int) (v829 : Int) (v830 : Int) (v831 : List Int) (v832 : List Int) (k0 : Int → List Int → List Int → Option α) : Option α :=
  Nat.rec (motive := fun _ => Int → List Int → Int → Int → List Int → List Int → Option α) (fun _ _ _ _ _ _ => none) (fun _ next => impl_natDiv_L4r N next k0) n v827 v828 v829 v830 v831 v832
theorem impl_natDiv_L4.ex : ∃ f : ((α : Type) → Nat → Nat → Int → List Int → Int → Int → List Int → List Int → (Int → List Int → List Int → Option α) → Option α), f = fun α => @impl_natDiv_L4.b α := ⟨_, rfl⟩
noncomputable def impl_natDiv_L4 {α : Type} : Nat → Nat → Int → List Int → Int → Int → List Int → List Int → (Int → List Int → List Int → Option α) → Option α := Classical.choose impl_natDiv_L4.ex α
theorem impl_natDiv_L4.eq : @impl_natDiv_L4 = @impl_natDiv_L4.b := funext fun α => congrFun (Classical.choose_spec impl_natDiv_L4.ex) α
theorem impl_natDiv_L4.zero {α : Type} (N : Nat) (v827 : Int) (v828 : List Int) (v829 : Int) (v830 : Int) (v831 : List Int) (v832 : List Int) (k0 : Int → List Int → List Int → Option α) : impl_natDiv_L4 N 0 v827 v828 v829 v830 v831 v832 k0 = none := by rw [impl_natDiv_L4.eq]; rfl
theorem impl_natDiv_L4.succ {α : Type} (N n : Nat) (v827 : Int) (v828 : List Int) (v829 : Int) (v830 : Int) (v831 : List Int) (v832 : List Int) (k0 : Int → List Int → List Int → Option α) : impl_natDiv_L4 N (n + 1) v827 v828 v829 v830 v831 v832 k0 = impl_natDiv_L4r N (fun y0 y1 y2 y3 y4 y5 => impl_natDiv_L4 N n y0 y1 y2 y3 y4 y5 k0) k0 v827 v828 v829 v830 v831 v832 := by rw [impl_natDiv_L4.eq]; rfl
/-- loop.example/pinfold/impl.natDiv -/
noncomputable def impl_natDiv.b {α : Type} (N : Nat) (a560 : List Int) (a561 : List Int) (k0 : List Int → List Int → Option α) : Option α :=
  impl_natCmp N a560 a561
    (fun x588 =>
      let x589 := (decide (x588 < (0 : Int)))
      bif x589 then
        k0 [] a560
      else
        let x590 := ((a561.length : Nat) : Int)
        let x591 := (decide (x590 = (1 : Int)))
        bif x591 then
          let x592 := ((a560.length : Nat) : Int)
          bif (decide ((0 : Int) ≤ x592)) then
            bif decide (x592 ≤ x592) then
              bif (decide (x592 ≤ ((8796093022208 : Nat) : Int))) then
                let x593 := (List.replicate x592.toNat (0 : Int))
                let x594 := ((a560.length : Nat) : Int)
                let x595 := (IntKind.i64.wrap (x594 - (1 : Int)))
                impl_natDiv_L0 N N a560 a561 (0 : Int) x595 x593
                  (fun x612 x613 =>
                    impl_trim N x613
                      (fun x626 =>
                        let x627 := [x612]
                        impl_trim N x627
                          (fun x628 =>
                            k0 x626 x628)))
              else
                none
            else
              none
          else
            none
        else
          let x629 := ((a561.length : Nat) : Int)
          let x630 := (IntKind.i64.wrap (x629 - (1 : Int)))
          bif (decide (x630 < (0 : Int))) then
            none
          else
            match a561[x630.toNat]? with
            | some x631 =>
              let x632 := IntKind.u64.wrap x631
              math_bits_Len N x632
                (fun x661 =>
                  let x662 := (IntKind.i64.wrap ((16 : Int) - x661))
                  impl_natShift N a561 x662
                    (fun x800 =>
                      impl_natShift N a560 x662
                        (fun x801 =>
                          slices_Clone_int_int N x801
                            (fun x802 =>
                              let x803 := [(0 : Int)]
                              bif decide (x802.length + x803.length ≤ 8796093022208) then
                                let x804 := x802 ++ x803
                                let x805 := ((x800.length : Nat) : Int)
                                impl_natDiv_L2 N N a560 x662 x800 x805 x804
                                  (fun x817 x818 x819 x820 =>
                                    let x821 := ((x820.length : Nat) : Int)
                                    let x822 := IntKind.i64.wrap (x821 - x819)
                                    bif (decide ((0 : Int) ≤ x822)) then
                                      bif decide (x822 ≤ x822) then
                                        bif (decide (x822 ≤ ((8796093022208 : Nat) : Int))) then
                                          let x823 := (List.replicate x822.toNat (0 : Int))
                                          let x824 := ((x820.length : Nat) : Int)
                                          let x825 := IntKind.i64.wrap (x824 - x819)
                                          let x826 := (IntKind.i64.wrap (x825 - (1 : Int)))
                                          impl_natDiv_L4 N N x817 x818 x819 x826 x820 x823
                                            (fun x1009 x1010 x1011 =>
                                              impl_trim N x1011
                                                (fun x1012 =>
                                                  impl_trim N x1010
                                                    (fun x1013 =>
                                                      let x1014 := IntKind.i64.wrap (0 - x1009)
                                                      impl_natShift N x1013 x1014
                                                        (fun x1015 =>
                                                          k0 x1012 x1015))))
                                        else
                                          none
                                      else
                                        none
                                    else
                                      none)
                              else
                                none))))
            | none => none)
theorem impl_natDiv.ex : ∃ f : ((α : Type) → Nat → List Int → List Int → (List Int → List Int → Option α) → Option α), f = fun α => @impl_natDiv.b α := ⟨_, rfl⟩
noncomputable def impl_natDiv {α : Type} : Nat → List Int → List Int → (List Int → List Int → Option α) → Option α := Classical.choose impl_natDiv.ex α
theorem impl_natDiv.eq : @impl_natDiv = @impl_natDiv.b := funext fun α => congrFun (Classical.choose_spec impl_natDiv.ex) α

noncomputable def impl_natGcd_L0r {α : Type} (N : Nat) (next : List Int → List Int → Option α) (k0 : List Int → Option α) (v487 : List Int) (v488 : List Int) : Option α :=
  let x489 := ((v488.length : Nat) : Int)
  let x490 := (decide ((0 : Int) < x489))
  bif x490 then
    impl_natDiv N v487 v488
      (fun _ x1017 =>
        next v488 x1017)
  else
    k0 v487
noncomputable def impl_natGcd_L0.b {α : Type} (N n : Nat) (v487 : List Int) (v488 : List Int) (k0 : List Int → Option α) : Option α :=
  Nat.rec (motive := fun _ => List Int → List Int → Option α) (fun _ _ => none) (fun _ next => impl_natGcd_L0r N next k0) n v487 v488
theorem impl_natGcd_L0.ex : ∃ f : ((α : Type) → Nat → Nat → List Int → List Int → (List Int → Option α) → Option α), f = fun α => @impl_natGcd_L0.b α := ⟨_, rfl⟩
noncomputable def impl_natGcd_L0 {α : Type} : Nat → Nat → List Int → List Int → (List Int → Option α) → Option α := Classical.choose impl_natGcd_L0.ex α
theorem impl_natGcd_L0.eq : @impl_natGcd_L0 = @impl_natGcd_L0.b := funext fun α => congrFun (Classical.choose_spec impl_natGcd_L0.ex) α
theorem impl_natGcd_L0.zero {α : Type} (N : Nat) (v487 : List Int) (v488 : List Int) (k0 : List Int → Option α) : impl_natGcd_L0 N 0 v487 v488 k0 = none := by rw [impl_natGcd_L0.eq]; rfl
theorem impl_natGcd_L0.succ {α : Type} (N n : Nat) (v487 : List Int) (v488 : List Int) (k0 : List Int → Option α) : impl_natGcd_L0 N (n + 1) v487 v488 k0 = impl_natGcd_L0r N (fun y0 y1 => impl_natGcd_L0 N n y0 y1 k0) k0 v487 v488 := by rw [impl_natGcd_L0.eq]; rfl
/-- loop.example/pinfold/impl.natGcd -/
noncomputable def impl_natGcd.b {α : Type} (N : Nat) (a485 : List Int) (a486 : List Int) (k0 : List Int → Option α) : Option α :=
  impl_natGcd_L0 N N a485 a486
    (fun x1018 =>
      k0 x1018)
theorem impl_natGcd.ex : ∃ f : ((α : Type) → Nat → List Int → List Int → (List Int → Option α) → Option α), f = fun α => @impl_natGcd.b α := ⟨_, rfl⟩
noncomputable def impl_natGcd {α : Type} : Nat → List Int → List Int → (List Int → Option α) → Option α := Classical.choose impl_natGcd.ex α
theorem impl_natGcd.eq : @impl_natGcd = @impl_natGcd.b := funext fun α => congrFun (Classical.choose_spec impl_natGcd.ex) α

/-- loop.example/pinfold/impl.FracOk -/
noncomputable def impl_FracOk.b {α : Type} (N : Nat) (a425 : Bool × (List Int) × (List Int) × Unit) (k0 : Bool → Option α) : Option α :=
  let x426 := [a425.2.1, a425.2.2.1]
  impl_nats N x426
    (fun x480 =>
      bif x480 then
        let x481 := ((a425.2.2.1.length : Nat) : Int)
        let x482 := (decide ((0 : Int) < x481))
        bif x482 then
          let x483 := ((a425.2.1.length : Nat) : Int)
          let x484 := (decide ((0 : Int) < x483))
          bif x484 then
            impl_natGcd N a425.2.1 a425.2.2.1
              (fun x1019 =>
                let x1020 := [(1 : Int)]
                impl_natCmp N x1019 x1020
                  (fun x1021 =>
                    let x1022 := (decide (x1021 = (0 : Int)))
                    k0 x1022))
          else
            let x1023 := !a425.1
            bif x1023 then
              impl_natGcd N a425.2.1 a425.2.2.1
                (fun x1024 =>
                  let x1025 := [(1 : Int)]
                  impl_natCmp N x1024 x1025
                    (fun x1026 =>
                      let x1027 := (decide (x1026 = (0 : Int)))
                      k0 x1027))
            else
              k0 false
        else
          k0 false
      else
        k0 false)
theorem impl_FracOk.ex : ∃ f : ((α : Type) → Nat → (Bool × (List Int) × (List Int) × Unit) → (Bool → Option α) → Option α), f = fun α => @impl_FracOk.b α := ⟨_, rfl⟩
noncomputable def impl_FracOk {α : Type} : Nat → (Bool × (List Int) × (List Int) × Unit) → (Bool → Option α) → Option α := Classical.choose impl_FracOk.ex α
theorem impl_FracOk.eq : @impl_FracOk = @impl_FracOk.b := funext fun α => congrFun (Classical.choose_spec impl_FracOk.ex) α

/-- loop.example/pinfold/impl.FracAbs$1 -/
noncomputable def impl_FracAbs_1.b {α : Type} (N : Nat) (a1030 : Bool × (List Int) × (List Int) × Unit) (k0 : (Bool × (List Int) × (List Int) × Unit) → Option α) : Option α :=
  k0 (false, (a1030.2.1, (a1030.2.2.1, ())))
theorem impl_FracAbs_1.ex : ∃ f : ((α : Type) → Nat → (Bool × (List Int) × (List Int) × Unit) → ((Bool × (List Int) × (List Int) × Unit) → Option α) → Option α), f = fun α => @impl_FracAbs_1.b α := ⟨_, rfl⟩
noncomputable def impl_FracAbs_1 {α : Type} : Nat → (Bool × (List Int) × (List Int) × Unit) → ((Bool × (List Int) × (List Int) × Unit) → Option α) → Option α := Classical.choose impl_FracAbs_1.ex α
theorem impl_FracAbs_1.eq : @impl_FracAbs_1 = @impl_FracAbs_1.b := funext fun α => congrFun (Classical.choose_spec impl_FracAbs_1.ex) α

/-- slices.Clip[[]int,int] -/
noncomputable def slices_Clip_int_int.b {α : Type} (N : Nat) (a1039 : List Int) (k0 : List Int → Option α) : Option α :=
  let x1040 := ((a1039.length : Nat) : Int)
  let x1041 := ((a1039.length : Nat) : Int)
  bif (decide ((0 : Int) ≤ x1041)) then
    bif (decide (x1041 ≤ ((a1039.length : Nat) : Int))) then
      bif (decide ((0 : Int) ≤ x1040)) then
        bif (decide (x1040 ≤ ((x1041.toNat : Nat) : Int))) then
          let x1042 := a1039.take x1040.toNat
          k0 x1042
        else
          none
      else
        none
    else
      none
  else
    none
theorem slices_Clip_int_int.ex : ∃ f : ((α : Type) → Nat → List Int → (List Int → Option α) → Option α), f = fun α => @slices_Clip_int_int.b α := ⟨_, rfl⟩
noncomputable def slices_Clip_int_int {α : Type} : Nat → List Int → (List Int → Option α) → Option α := Classical.choose slices_Clip_int_int.ex α
theorem slices_Clip_int_int.eq : @slices_Clip_int_int = @slices_Clip_int_int.b := funext fun α => congrFun (Classical.choose_spec slices_Clip_int_int.ex) α

/-- loop.example/pinfold/impl.clone[int] -/
noncomputable def impl_clone_int.b {α : Type} (N : Nat) (a1037 : List Int) (k0 : List Int → Option α) : Option α :=
  slices_Clone_int_int N a1037
    (fun x1038 =>
      slices_Clip_int_int N x1038
        (fun x1043 =>
          k0 x1043))
theorem impl_clone_int.ex : ∃ f : ((α : Type) → Nat → List Int → (List Int → Option α) → Option α), f = fun α => @impl_clone_int.b α := ⟨_, rfl⟩
noncomputable def impl_clone_int {α : Type} : Nat → List Int → (List Int → Option α) → Option α := Classical.choose impl_clone_int.ex α
theorem impl_clone_int.eq : @impl_clone_int = @impl_clone_int.b := funext fun α => congrFun (Classical.choose_spec impl_clone_int.ex) α

/-- loop.example/pinfold/impl.given -/
noncomputable def impl_given.b {α : Type} (N : Nat) (a1032 : Bool × (List Int) × (List Int) × Unit) (k0 : Bool → Bool → List Int → List Int → Option α) : Option α :=
  let x1033 := ((a1032.2.1.length : Nat) : Int)
  let x1034 := (decide ((256 : Int) < x1033))
  bif x1034 then
    k0 false false [] []
  else
    let x1035 := ((a1032.2.2.1.length : Nat) : Int)
    let x1036 := (decide ((256 : Int) < x1035))
    bif x1036 then
      k0 false false [] []
    else
      impl_clone_int N a1032.2.1
        (fun x1044 =>
          impl_clone_int N a1032.2.2.1
            (fun x1045 =>
              k0 a1032.1 true x1044 x1045))
theorem impl_given.ex : ∃ f : ((α : Type) → Nat → (Bool × (List Int) × (List Int) × Unit) → (Bool → Bool → List Int → List Int → Option α) → Option α), f = fun α => @impl_given.b α := ⟨_, rfl⟩
noncomputable def impl_given {α : Type} : Nat → (Bool × (List Int) × (List Int) × Unit) → (Bool → Bool → List Int → List Int → Option α) → Option α := Classical.choose impl_given.ex α
theorem impl_given.eq : @impl_given = @impl_given.b := funext fun α => congrFun (Classical.choose_spec impl_given.ex) α

/-- loop.example/pinfold/impl.one -/
noncomputable def impl_one__impl_FracAbs_1.b {α : Type} (N : Nat) (a424 : Bool × (List Int) × (List Int) × Unit) (k0 : Bool → Bool → List Int → List Int → Option α) : Option α :=
  impl_FracOk N a424
    (fun x1028 =>
      let x1029 := !x1028
      bif x1029 then
        k0 false false [] []
      else
        impl_FracAbs_1 N a424
          (fun x1031 =>
            impl_given N x1031
              (fun x1046 x1047 x1048 x1049 =>
                k0 x1046 x1047 x1048 x1049)))
theorem impl_one__impl_FracAbs_1.ex : ∃ f : ((α : Type) → Nat → (Bool × (List Int) × (List Int) × Unit) → (Bool → Bool → List Int → List Int → Option α) → Option α), f = fun α => @impl_one__impl_FracAbs_1.b α := ⟨_, rfl⟩
noncomputable def impl_one__impl_FracAbs_1 {α : Type} : Nat → (Bool × (List Int) × (List Int) × Unit) → (Bool → Bool → List Int → List Int → Option α) → Option α := Classical.choose impl_one__impl_FracAbs_1.ex α
theorem impl_one__impl_FracAbs_1.eq : @impl_one__impl_FracAbs_1 = @impl_one__impl_FracAbs_1.b := funext fun α => congrFun (Classical.choose_spec impl_one__impl_FracAbs_1.ex) α

/-- loop.example/pinfold/impl.FracAbs -/
noncomputable def impl_FracAbs.b {α : Type} (N : Nat) (a423 : Bool × (List Int) × (List Int) × Unit) (k0 : Bool → Bool → List Int → List Int → Option α) : Option α :=
  impl_one__impl_FracAbs_1 N a423
    (fun x1050 x1051 x1052 x1053 =>
      k0 x1050 x1051 x1052 x1053)
theorem impl_FracAbs.ex : ∃ f : ((α : Type) → Nat → (Bool × (List Int) × (List Int) × Unit) → (Bool → Bool → List Int → List Int → Option α) → Option α), f = fun α => @impl_FracAbs.b α := ⟨_, rfl⟩
noncomputable def impl_FracAbs {α : Type} : Nat → (Bool × (List Int) × (List Int) × Unit) → (Bool → Bool → List Int → List Int → Option α) → Option α := Classical.choose impl_FracAbs.ex α
theorem impl_FracAbs.eq : @impl_FracAbs = @impl_FracAbs.b := funext fun α => congrFun (Classical.choose_spec impl_FracAbs.ex) α

noncomputable def laws_eqIntS_L0r {α : Type} (N : Nat) (next : List Int → List Int → Int → Option α) (k0 : Bool → Option α) (k1 : Option α) (v1066 : List Int) (v1067 : List Int) (v1068 : Int) : Option α :=
  let x1069 := ((v1066.length : Nat) : Int)
  let x1070 := decide (v1068 < x1069)
  bif x1070 then
    bif (decide (v1068 < (0 : Int))) then
      none
    else
      match v1066[v1068.toNat]? with
      | some x1071 =>
        bif (decide (v1068 < (0 : Int))) then
          none
        else
          match v1067[v1068.toNat]? with
          | some x1072 =>
            let x1073 := !(decide (x1071 = x1072))
            bif x1073 then
              k0 false
            else
              let x1074 := (IntKind.i64.wrap (v1068 + (1 : Int)))
              next v1066 v1067 x1074
          | none => none
      | none => none
  else
    k1
noncomputable def laws_eqIntS_L0.b {α : Type} (N n : Nat) (v1066 : List Int) (v1067 : List Int) (v1068 : Int) (k0 : Bool → Option α) (k1 : Option α) : Option α :=
  Nat.rec (motive := fun _ => List Int → List Int → Int → Option α) (fun _ _ _ => none) (fun _ next => laws_eqIntS_L0r N next k0 k1) n v1066 v1067 v1068
theorem laws_eqIntS_L0.ex : ∃ f : ((α : Type) → Nat → Nat → List Int → List Int → Int → (Bool → Option α) → (Option α) → Option α), f = fun α => @laws_eqIntS_L0.b α := ⟨_, rfl⟩
noncomputable def laws_eqIntS_L0 {α : Type} : Nat → Nat → List Int → List Int → Int → (Bool → Option α) → (Option α) → Option α := Classical.choose laws_eqIntS_L0.ex α
theorem laws_eqIntS_L0.eq : @laws_eqIntS_L0 = @laws_eqIntS_L0.b := funext fun α => congrFun (Classical.choose_spec laws_eqIntS_L0.ex) α
theorem laws_eqIntS_L0.zero {α : Type} (N : Nat) (v1066 : List Int) (v1067 : List Int) (v1068 : Int) (k0 : Bool → Option α) (k1 : Option α) : laws_eqIntS_L0 N 0 v1066 v1067 v1068 k0 k1 = none := by rw [laws_eqIntS_L0.eq]; rfl
theorem laws_eqIntS_L0.succ {α : Type} (N n : Nat) (v1066 : List Int) (v1067 : List Int) (v1068 : Int) (k0 : Bool → Option α) (k1 : Option α) : laws_eqIntS_L0 N (n + 1) v1066 v1067 v1068 k0 k1 = laws_eqIntS_L0r N (fun y0 y1 y2 => laws_eqIntS_L0 N n y0 y1 y2 k0 k1) k0 k1 v1066 v1067 v1068 := by rw [laws_eqIntS_L0.eq]; rfl
/-- loop.example/pinfold/laws.eqIntS -/
noncomputable def laws_eqIntS.b {α : Type} (N : Nat) (a1061 : List Int) (a1062 : List Int) (k0 : Bool → Option α) : Option α :=
  let x1063 := ((a1061.length : Nat) : Int)
  let x1064 := ((a1062.length : Nat) : Int)
  let x1065 := !(decide (x1063 = x1064))
  bif x1065 then
    k0 false
  else
    laws_eqIntS_L0 N N a1061 a1062 (0 : Int)
      (fun x1075 =>
        k0 x1075)
      (
        k0 true)
theorem laws_eqIntS.ex : ∃ f : ((α : Type) → Nat → List Int → List Int → (Bool → Option α) → Option α), f = fun α => @laws_eqIntS.b α := ⟨_, rfl⟩
noncomputable def laws_eqIntS {α : Type} : Nat → List Int → List Int → (Bool → Option α) → Option α := Classical.choose laws_eqIntS.ex α
theorem laws_eqIntS.eq : @laws_eqIntS = @laws_eqIntS.b := funext fun α => congrFun (Classical.choose_spec laws_eqIntS.ex) α

/-- loop.example/pinfold/laws.eqFrac -/
noncomputable def laws_eqFrac.b {α : Type} (N : Nat) (a1058 : Bool × (List Int) × (List Int) × Unit) (a1059 : Bool × (List Int) × (List Int) × Unit) (k0 : Bool → Option α) : Option α :=
  let x1060 := !(a1058.1 == a1059.1)
  bif x1060 then
    k0 false
  else
    laws_eqIntS N a1058.2.1 a1059.2.1
      (fun x1076 =>
        let x1077 := !x1076
        bif x1077 then
          k0 false
        else
          laws_eqIntS N a1058.2.2.1 a1059.2.2.1
            (fun x1078 =>
              let x1079 := !x1078
              bif x1079 then
                k0 false
              else
                k0 true))
theorem laws_eqFrac.ex : ∃ f : ((α : Type) → Nat → (Bool × (List Int) × (List Int) × Unit) → (Bool × (List Int) × (List Int) × Unit) → (Bool → Option α) → Option α), f = fun α => @laws_eqFrac.b α := ⟨_, rfl⟩
noncomputable def laws_eqFrac {α : Type} : Nat → (Bool × (List Int) × (List Int) × Unit) → (Bool × (List Int) × (List Int) × Unit) → (Bool → Option α) → Option α := Classical.choose laws_eqFrac.ex α
theorem laws_eqFrac.eq : @laws_eqFrac = @laws_eqFrac.b := funext fun α => congrFun (Classical.choose_spec laws_eqFrac.ex) α

noncomputable def laws_markIntS_L0r {α : Type} (N : Nat) (next : Int → Int → List Int → Option α) (k0 : Int → List Int → Option α) (v1094 : Int) (v1095 : Int) (v1096 : List Int) : Option α :=
  let x1097 := ((v1096.length : Nat) : Int)
  let x1098 := decide (v1095 < x1097)
  bif x1098 then
    bif (decide (v1095 < (0 : Int))) then
      none
    else
      bif decide (v1095.toNat < v1096.length) then
        match v1096[v1095.toNat]? with
        | some x1099 =>
          let x1100 := v1096.set v1095.toNat v1094
          let x1101 := (IntKind.i64.wrap (v1094 + (1 : Int)))
          let x1102 := (IntKind.i64.wrap (v1095 + (1 : Int)))
          next x1101 x1102 x1100
        | none => none
      else
        none
  else
    k0 v1094 v1096
noncomputable def laws_markIntS_L0.b {α : Type} (N n : Nat) (v1094 : Int) (v1095 : Int) (v1096 : List Int) (k0 : Int → List Int → Option α) : Option α :=
  Nat.rec (motive := fun _ => Int → Int → List Int → Option α) (fun _ _ _ => none) (fun _ next => laws_markIntS_L0r N next k0) n v1094 v1095 v1096
theorem laws_markIntS_L0.ex : ∃ f : ((α : Type) → Nat → Nat → Int → Int → List Int → (Int → List Int → Option α) → Option α), f = fun α => @laws_markIntS_L0.b α := ⟨_, rfl⟩
noncomputable def laws_markIntS_L0 {α : Type} : Nat → Nat → Int → Int → List Int → (Int → List Int → Option α) → Option α := Classical.choose laws_markIntS_L0.ex α
theorem laws_markIntS_L0.eq : @laws_markIntS_L0 = @laws_markIntS_L0.b := funext fun α => congrFun (Classical.choose_spec laws_markIntS_L0.ex) α
theorem laws_markIntS_L0.zero {α : Type} (N : Nat) (v1094 : Int) (v1095 : Int) (v1096 : List Int) (k0 : Int → List Int → Option α) : laws_markIntS_L0 N 0 v1094 v1095 v1096 k0 = none := by rw [laws_markIntS_L0.eq]; rfl
theorem laws_markIntS_L0.succ {α : Type} (N n : Nat) (v1094 : Int) (v1095 : Int) (v1096 : List Int) (k0 : Int → List Int → Option α) : laws_markIntS_L0 N (n + 1) v1094 v1095 v1096 k0 = laws_markIntS_L0r N (fun y0 y1 y2 => laws_markIntS_L0 N n y0 y1 y2 k0) k0 v1094 v1095 v1096 := by rw [laws_markIntS_L0.eq]; rfl
/-- loop.example/pinfold/laws.markIntS -/
noncomputable def laws_markIntS.b {α : Type} (N : Nat) (a1092 : Int) (a1093 : List Int) (k0 : Int → List Int → Option α) : Option α :=
  laws_markIntS_L0 N N a1092 (0 : Int) a1093
    (fun x1103 x1104 =>
      k0 x1103 x1104)
theorem laws_markIntS.ex : ∃ f : ((α : Type) → Nat → Int → List Int → (Int → List Int → Option α) → Option α), f = fun α => @laws_markIntS.b α := ⟨_, rfl⟩
noncomputable def laws_markIntS {α : Type} : Nat → Int → List Int → (Int → List Int → Option α) → Option α := Classical.choose laws_markIntS.ex α
theorem laws_markIntS.eq : @laws_markIntS = @laws_markIntS.b := funext fun α => congrFun (Classical.choose_spec laws_markIntS.ex) α

/-- loop.example/pinfold/laws.markFrac -/
noncomputable def laws_markFrac.b {α : Type} (N : Nat) (a1088 : Bool) (a1089 : Int) (a1090 : List Int) (a1091 : List Int) (k0 : Int → List Int → List Int → Option α) : Option α :=
  laws_markIntS N a1089 a1090
    (fun x1105 x1106 =>
      laws_markIntS N x1105 a1091
        (fun x1107 x1108 =>
          k0 x1107 x1106 x1108))
theorem laws_markFrac.ex : ∃ f : ((α : Type) → Nat → Bool → Int → List Int → List Int → (Int → List Int → List Int → Option α) → Option α), f = fun α => @laws_markFrac.b α := ⟨_, rfl⟩
noncomputable def laws_markFrac {α : Type} : Nat → Bool → Int → List Int → List Int → (Int → List Int → List Int → Option α) → Option α := Classical.choose laws_markFrac.ex α
theorem laws_markFrac.eq : @laws_markFrac = @laws_markFrac.b := funext fun α => congrFun (Classical.choose_spec laws_markFrac.ex) α

noncomputable def laws_heldIntS_L0r {α : Type} (N : Nat) (next : List Int → Int → Int → Option α) (k0 : Int → Option α) (k1 : Int → Option α) (v1123 : List Int) (v1124 : Int) (v1125 : Int) : Option α :=
  let x1126 := ((v1123.length : Nat) : Int)
  let x1127 := decide (v1125 < x1126)
  bif x1127 then
    bif (decide (v1125 < (0 : Int))) then
      none
    else
      match v1123[v1125.toNat]? with
      | some x1128 =>
        let x1129 := !(decide (x1128 = v1124))
        bif x1129 then
          k0 (-1 : Int)
        else
          let x1130 := (IntKind.i64.wrap (v1124 + (1 : Int)))
          let x1131 := (IntKind.i64.wrap (v1125 + (1 : Int)))
          next v1123 x1130 x1131
      | none => none
  else
    k1 v1124
noncomputable def laws_heldIntS_L0.b {α : Type} (N n : Nat) (v1123 : List Int) (v1124 : Int) (v1125 : Int) (k0 : Int → Option α) (k1 : Int → Option α) : Option α :=
  Nat.rec (motive := fun _ => List Int → Int → Int → Option α) (fun _ _ _ => none) (fun _ next => laws_heldIntS_L0r N next k0 k1) n v1123 v1124 v1125
theorem laws_heldIntS_L0.ex : ∃ f : ((α : Type) → Nat → Nat → List Int → Int → Int → (Int → Option α) → (Int → Option α) → Option α), f = fun α => @laws_heldIntS_L0.b α := ⟨_, rfl⟩
noncomputable def laws_heldIntS_L0 {α : Type} : Nat → Nat → List Int → Int → Int → (Int → Option α) → (Int → Option α) → Option α := Classical.choose laws_heldIntS_L0.ex α
theorem laws_heldIntS_L0.eq : @laws_heldIntS_L0 = @laws_heldIntS_L0.b := funext fun α => congrFun (Classical.choose_spec laws_heldIntS_L0.ex) α
theorem laws_heldIntS_L0.zero {α : Type} (N : Nat) (v1123 : List Int) (v1124 : Int) (v1125 : Int) (k0 : Int → Option α) (k1 : Int → Option α) : laws_heldIntS_L0 N 0 v1123 v1124 v1125 k0 k1 = none := by rw [laws_heldIntS_L0.eq]; rfl
theorem laws_heldIntS_L0.succ {α : Type} (N n : Nat) (v1123 : List Int) (v1124 : Int) (v1125 : Int) (k0 : Int → Option α) (k1 : Int → Option α) : laws_heldIntS_L0 N (n + 1) v1123 v1124 v1125 k0 k1 = laws_heldIntS_L0r N (fun y0 y1 y2 => laws_heldIntS_L0 N n y0 y1 y2 k0 k1) k0 k1 v1123 v1124 v1125 := by rw [laws_heldIntS_L0.eq]; rfl
/-- loop.example/pinfold/laws.heldIntS -/
noncomputable def laws_heldIntS.b {α : Type} (N : Nat) (a1121 : List Int) (a1122 : Int) (k0 : Int → Option α) : Option α :=
  laws_heldIntS_L0 N N a1121 a1122 (0 : Int)
    (fun x1132 =>
      k0 x1132)
    (fun x1133 =>
      k0 x1133)
theorem laws_heldIntS.ex : ∃ f : ((α : Type) → Nat → List Int → Int → (Int → Option α) → Option α), f = fun α => @laws_heldIntS.b α := ⟨_, rfl⟩
noncomputable def laws_heldIntS {α : Type} : Nat → List Int → Int → (Int → Option α) → Option α := Classical.choose laws_heldIntS.ex α
theorem laws_heldIntS.eq : @laws_heldIntS = @laws_heldIntS.b := funext fun α => congrFun (Classical.choose_spec laws_heldIntS.ex) α

/-- loop.example/pinfold/laws.heldFrac -/
noncomputable def laws_heldFrac.b {α : Type} (N : Nat) (a1119 : Bool × (List Int) × (List Int) × Unit) (a1120 : Int) (k0 : Int → Option α) : Option α :=
  laws_heldIntS N a1119.2.1 a1120
    (fun x1134 =>
      let x1135 := (decide (x1134 < (0 : Int)))
      bif x1135 then
        k0 (-1 : Int)
      else
        laws_heldIntS N a1119.2.2.1 x1134
          (fun x1136 =>
            let x1137 := (decide (x1136 < (0 : Int)))
            bif x1137 then
              k0 (-1 : Int)
            else
              k0 x1136))
theorem laws_heldFrac.ex : ∃ f : ((α : Type) → Nat → (Bool × (List Int) × (List Int) × Unit) → Int → (Int → Option α) → Option α), f = fun α => @laws_heldFrac.b α := ⟨_, rfl⟩
noncomputable def laws_heldFrac {α : Type} : Nat → (Bool × (List Int) × (List Int) × Unit) → Int → (Int → Option α) → Option α := Classical.choose laws_heldFrac.ex α
theorem laws_heldFrac.eq : @laws_heldFrac = @laws_heldFrac.b := funext fun α => congrFun (Classical.choose_spec laws_heldFrac.ex) α

/-- loop.example/pinfold/laws.FnExactFracAbs -/
noncomputable def laws_FnExactFracAbs.b {α : Type} (N : Nat) (a1 : Bool × (List Int) × (List Int) × Unit) (k0 : Bool → Option α) : Option α :=
  laws_szFrac N a1 (1048576 : Int)
    (fun x13 =>
      let x14 := (decide (x13 < (0 : Int)))
      bif x14 then
        k0 true
      else
        laws_toFrac N a1
          (fun x31 x32 x33 =>
            spec_FracAbs N (x31, (x32, (x33, ())))
              (fun x416 x417 x418 x419 =>
                laws_toFrac N a1
                  (fun x420 x421 x422 =>
                    impl_FracAbs N (x420, (x421, (x422, ())))
                      (fun x1054 x1055 x1056 x1057 =>
                        laws_eqFrac N (x1054, (x1056, (x1057, ()))) (x416, (x418, (x419, ())))
                          (fun x1080 =>
                            let x1081 := !x1080
                            bif x1081 then
                              k0 false
                            else
                              let x1082 := !(x1055 == x417)
                              bif x1082 then
                                k0 false
                              else
                                laws_toFrac N a1
                                  (fun x1083 x1084 x1085 =>
                                    laws_eqFrac N (x420, (x421, (x422, ()))) (x1083, (x1084, (x1085, ())))
                                      (fun x1086 =>
                                        let x1087 := !x1086
                                        bif x1087 then
                                          k0 false
                                        else
                                          laws_markFrac N x420 (1 : Int) x421 x422
                                            (fun x1109 _ _ =>
                                              let x1112 := (decide (x1109 < (0 : Int)))
                                              bif x1112 then
                                                k0 false
                                              else
                                                laws_eqFrac N (x1054, (x1056, (x1057, ()))) (x416, (x418, (x419, ())))
                                                  (fun x1113 =>
                                                    let x1114 := !x1113
                                                    bif x1114 then
                                                      k0 false
                                                    else
                                                      let x1115 := !(x1055 == x417)
                                                      bif x1115 then
                                                        k0 false
                                                      else
                                                        laws_markFrac N x1054 (1 : Int) x1056 x1057
                                                          (fun x1116 x1117 x1118 =>
                                                            laws_heldFrac N (x1054, (x1117, (x1118, ()))) (1 : Int)
                                                              (fun x1138 =>
                                                                let x1139 := (decide (x1138 < (0 : Int)))
                                                                bif x1139 then
                                                                  k0 false
                                                                else
                                                                  let x1140 := !(decide (x1138 = x1116))
                                                                  bif x1140 then
                                                                    k0 false
                                                                  else
                                                                    laws_toFrac N a1
                                                                      (fun x1141 x1142 x1143 =>
                                                                        impl_FracAbs N (x1141, (x1142, (x1143, ())))
                                                                          (fun x1144 x1145 x1146 x1147 =>
                                                                            laws_eqFrac N (x1144, (x1146, (x1147, ()))) (x416, (x418, (x419, ())))
                                                                              (fun x1148 =>
                                                                                let x1149 := !x1148
                                                                                bif x1149 then
                                                                                  k0 false
                                                                                else
                                                                                  let x1150 := !(x1145 == x417)
                                                                                  bif x1150 then
                                                                                    k0 false
                                                                                  else
                                                                                    laws_heldFrac N (x1054, (x1117, (x1118, ()))) (1 : Int)
                                                                                      (fun x1151 =>
                                                                                        let x1152 := (decide (x1151 < (0 : Int)))
                                                                                        bif x1152 then
                                                                                          k0 false
                                                                                        else
                                                                                          let x1153 := !(decide (x1151 = x1116))
                                                                                          bif x1153 then
                                                                                            k0 false
                                                                                          else
                                                                                            k0 true))))))))))))))))
theorem laws_FnExactFracAbs.ex : ∃ f : ((α : Type) → Nat → (Bool × (List Int) × (List Int) × Unit) → (Bool → Option α) → Option α), f = fun α => @laws_FnExactFracAbs.b α := ⟨_, rfl⟩
noncomputable def laws_FnExactFracAbs {α : Type} : Nat → (Bool × (List Int) × (List Int) × Unit) → (Bool → Option α) → Option α := Classical.choose laws_FnExactFracAbs.ex α
theorem laws_FnExactFracAbs.eq : @laws_FnExactFracAbs = @laws_FnExactFracAbs.b := funext fun α => congrFun (Classical.choose_spec laws_FnExactFracAbs.ex) α

end
end Go.Proofs.YthjjaddhcdekjaaAm
