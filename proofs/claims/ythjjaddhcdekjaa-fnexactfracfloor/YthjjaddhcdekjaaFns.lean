/-
  The functions that the program computes, as the abstract machine tells them. Printed by amp.py.
-/
import Derived.Test.YthjjaddhcdekjaaAmb
namespace Go.Proofs.YthjjaddhcdekjaaAm
open Go
noncomputable section
set_option linter.unusedVariables false
set_option linter.unusedSimpArgs false

/-- loop.example/pinfold/laws.szIntS -/
noncomputable def laws_szIntS.b {α : Type} (N : Nat) (a4 : List Int) (a5 : Int) (k0 : Int → Option α) : Option α :=
  let x6 := ((a4.length : Nat) : Int)
  let x7 := IntKind.i64.wrap (a5 - x6)
  let x8 := (decide (x7 < (0 : Int)))
  bif x8 then
    k0 (-1 : Int)
  else
    k0 x7
theorem laws_szIntS.ex : ∃ f : ((α : Type) → Nat → List Int → Int → (Int → Option α) → Option α), f = fun α => @laws_szIntS.b α := ⟨_, rfl⟩
noncomputable def laws_szIntS {α : Type} : Nat → List Int → Int → (Int → Option α) → Option α := Classical.choose laws_szIntS.ex α
theorem laws_szIntS.eq : @laws_szIntS = @laws_szIntS.b := funext fun α => congrFun (Classical.choose_spec laws_szIntS.ex) α

/-- loop.example/pinfold/laws.szFrac -/
noncomputable def laws_szFrac.b {α : Type} (N : Nat) (a2 : Bool × (List Int) × (List Int) × Unit) (a3 : Int) (k0 : Int → Option α) : Option α :=
  laws_szIntS N a2.2.1 a3
    (fun x9 =>
      let x10 := (decide (x9 < (0 : Int)))
      bif x10 then
        k0 (-1 : Int)
      else
        laws_szIntS N a2.2.2.1 x9
          (fun x11 =>
            let x12 := (decide (x11 < (0 : Int)))
            bif x12 then
              k0 (-1 : Int)
            else
              k0 x11))
theorem laws_szFrac.ex : ∃ f : ((α : Type) → Nat → (Bool × (List Int) × (List Int) × Unit) → Int → (Int → Option α) → Option α), f = fun α => @laws_szFrac.b α := ⟨_, rfl⟩
noncomputable def laws_szFrac {α : Type} : Nat → (Bool × (List Int) × (List Int) × Unit) → Int → (Int → Option α) → Option α := Classical.choose laws_szFrac.ex α
theorem laws_szFrac.eq : @laws_szFrac = @laws_szFrac.b := funext fun α => congrFun (Classical.choose_spec laws_szFrac.ex) α

noncomputable def laws_toIntS_L0r {α : Type} (N : Nat) (next : List Int → Int → List Int → Option α) (k0 : List Int → Option α) (v19 : List Int) (v20 : Int) (v21 : List Int) : Option α :=
  let x22 := ((v19.length : Nat) : Int)
  let x23 := decide (v20 < x22)
  bif x23 then
    bif (decide (v20 < (0 : Int))) then
      none
    else
      match v19[v20.toNat]? with
      | some x24 =>
        bif (decide (v20 < (0 : Int))) then
          none
        else
          bif decide (v20.toNat < v21.length) then
            match v21[v20.toNat]? with
            | some x25 =>
              let x26 := v21.set v20.toNat x24
              let x27 := (IntKind.i64.wrap (v20 + (1 : Int)))
              next v19 x27 x26
            | none => none
          else
            none
      | none => none
  else
    k0 v21
noncomputable def laws_toIntS_L0.b {α : Type} (N n : Nat) (v19 : List Int) (v20 : Int) (v21 : List Int) (k0 : List Int → Option α) : Option α :=
  Nat.rec (motive := fun _ => List Int → Int → List Int → Option α) (fun _ _ _ => none) (fun _ next => laws_toIntS_L0r N next k0) n v19 v20 v21
theorem laws_toIntS_L0.ex : ∃ f : ((α : Type) → Nat → Nat → List Int → Int → List Int → (List Int → Option α) → Option α), f = fun α => @laws_toIntS_L0.b α := ⟨_, rfl⟩
noncomputable def laws_toIntS_L0 {α : Type} : Nat → Nat → List Int → Int → List Int → (List Int → Option α) → Option α := Classical.choose laws_toIntS_L0.ex α
theorem laws_toIntS_L0.eq : @laws_toIntS_L0 = @laws_toIntS_L0.b := funext fun α => congrFun (Classical.choose_spec laws_toIntS_L0.ex) α
theorem laws_toIntS_L0.zero {α : Type} (N : Nat) (v19 : List Int) (v20 : Int) (v21 : List Int) (k0 : List Int → Option α) : laws_toIntS_L0 N 0 v19 v20 v21 k0 = none := by rw [laws_toIntS_L0.eq]; rfl
theorem laws_toIntS_L0.succ {α : Type} (N n : Nat) (v19 : List Int) (v20 : Int) (v21 : List Int) (k0 : List Int → Option α) : laws_toIntS_L0 N (n + 1) v19 v20 v21 k0 = laws_toIntS_L0r N (fun y0 y1 y2 => laws_toIntS_L0 N n y0 y1 y2 k0) k0 v19 v20 v21 := by rw [laws_toIntS_L0.eq]; rfl
/-- loop.example/pinfold/laws.toIntS -/
noncomputable def laws_toIntS.b {α : Type} (N : Nat) (a16 : List Int) (k0 : List Int → Option α) : Option α :=
  let x17 := ((a16.length : Nat) : Int)
  bif (decide ((0 : Int) ≤ x17)) then
    bif decide (x17 ≤ x17) then
      bif (decide (x17 ≤ ((8796093022208 : Nat) : Int))) then
        let x18 := (List.replicate x17.toNat (0 : Int))
        laws_toIntS_L0 N N a16 (0 : Int) x18
          (fun x28 =>
            k0 x28)
      else
        none
    else
      none
  else
    none
theorem laws_toIntS.ex : ∃ f : ((α : Type) → Nat → List Int → (List Int → Option α) → Option α), f = fun α => @laws_toIntS.b α := ⟨_, rfl⟩
noncomputable def laws_toIntS {α : Type} : Nat → List Int → (List Int → Option α) → Option α := Classical.choose laws_toIntS.ex α
theorem laws_toIntS.eq : @laws_toIntS = @laws_toIntS.b := funext fun α => congrFun (Classical.choose_spec laws_toIntS.ex) α

/-- loop.example/pinfold/laws.toFrac -/
noncomputable def laws_toFrac.b {α : Type} (N : Nat) (a15 : Bool × (List Int) × (List Int) × Unit) (k0 : Bool → List Int → List Int → Option α) : Option α :=
  laws_toIntS N a15.2.1
    (fun x29 =>
      laws_toIntS N a15.2.2.1
        (fun x30 =>
          k0 a15.1 x29 x30))
theorem laws_toFrac.ex : ∃ f : ((α : Type) → Nat → (Bool × (List Int) × (List Int) × Unit) → (Bool → List Int → List Int → Option α) → Option α), f = fun α => @laws_toFrac.b α := ⟨_, rfl⟩
noncomputable def laws_toFrac {α : Type} : Nat → (Bool × (List Int) × (List Int) × Unit) → (Bool → List Int → List Int → Option α) → Option α := Classical.choose laws_toFrac.ex α
theorem laws_toFrac.eq : @laws_toFrac = @laws_toFrac.b := funext fun α => congrFun (Classical.choose_spec laws_toFrac.ex) α

noncomputable def spec_NatOk_L0r {α : Type} (N : Nat) (next : List Int → Int → Option α) (k0 : Bool → Option α) (k1 : List Int → Option α) (v39 : List Int) (v40 : Int) : Option α :=
  let x41 := ((v39.length : Nat) : Int)
  let x42 := decide (v40 < x41)
  bif x42 then
    bif (decide (v40 < (0 : Int))) then
      none
    else
      match v39[v40.toNat]? with
      | some x43 =>
        let x44 := (decide (x43 < (0 : Int)))
        bif x44 then
          k0 false
        else
          bif (decide (v40 < (0 : Int))) then
            none
          else
            match v39[v40.toNat]? with
            | some x45 =>
              let x46 := (decide ((65536 : Int) ≤ x45))
              bif x46 then
                k0 false
              else
                let x47 := (IntKind.i64.wrap (v40 + (1 : Int)))
                next v39 x47
            | none => none
      | none => none
  else
    k1 v39
noncomputable def spec_NatOk_L0.b {α : Type} (N n : Nat) (v39 : List Int) (v40 : Int) (k0 : Bool → Option α) (k1 : List Int → Option α) : Option α :=
  Nat.rec (motive := fun _ => List Int → Int → Option α) (fun _ _ => none) (fun _ next => spec_NatOk_L0r N next k0 k1) n v39 v40
theorem spec_NatOk_L0.ex : ∃ f : ((α : Type) → Nat → Nat → List Int → Int → (Bool → Option α) → (List Int → Option α) → Option α), f = fun α => @spec_NatOk_L0.b α := ⟨_, rfl⟩
noncomputable def spec_NatOk_L0 {α : Type} : Nat → Nat → List Int → Int → (Bool → Option α) → (List Int → Option α) → Option α := Classical.choose spec_NatOk_L0.ex α
theorem spec_NatOk_L0.eq : @spec_NatOk_L0 = @spec_NatOk_L0.b := funext fun α => congrFun (Classical.choose_spec spec_NatOk_L0.ex) α
theorem spec_NatOk_L0.zero {α : Type} (N : Nat) (v39 : List Int) (v40 : Int) (k0 : Bool → Option α) (k1 : List Int → Option α) : spec_NatOk_L0 N 0 v39 v40 k0 k1 = none := by rw [spec_NatOk_L0.eq]; rfl
theorem spec_NatOk_L0.succ {α : Type} (N n : Nat) (v39 : List Int) (v40 : Int) (k0 : Bool → Option α) (k1 : List Int → Option α) : spec_NatOk_L0 N (n + 1) v39 v40 k0 k1 = spec_NatOk_L0r N (fun y0 y1 => spec_NatOk_L0 N n y0 y1 k0 k1) k0 k1 v39 v40 := by rw [spec_NatOk_L0.eq]; rfl
/-- loop.example/pinfold/spec.NatOk -/
noncomputable def spec_NatOk.b {α : Type} (N : Nat) (a36 : List Int) (k0 : Bool → Option α) : Option α :=
  let x37 := ((a36.length : Nat) : Int)
  let x38 := (decide ((256 : Int) < x37))
  bif x38 then
    k0 false
  else
    spec_NatOk_L0 N N a36 (0 : Int)
      (fun x48 =>
        k0 x48)
      (fun x49 =>
        let x50 := ((x49.length : Nat) : Int)
        let x51 := (decide (x50 = (0 : Int)))
        bif x51 then
          k0 true
        else
          let x52 := ((x49.length : Nat) : Int)
          let x53 := (IntKind.i64.wrap (x52 - (1 : Int)))
          bif (decide (x53 < (0 : Int))) then
            none
          else
            match x49[x53.toNat]? with
            | some x54 =>
              let x55 := (!(decide (x54 = (0 : Int))))
              k0 x55
            | none => none)
theorem spec_NatOk.ex : ∃ f : ((α : Type) → Nat → List Int → (Bool → Option α) → Option α), f = fun α => @spec_NatOk.b α := ⟨_, rfl⟩
noncomputable def spec_NatOk {α : Type} : Nat → List Int → (Bool → Option α) → Option α := Classical.choose spec_NatOk.ex α
theorem spec_NatOk.eq : @spec_NatOk = @spec_NatOk.b := funext fun α => congrFun (Classical.choose_spec spec_NatOk.ex) α

noncomputable def spec_l5Trim_L0r {α : Type} (N : Nat) (next : List Int → Int → Option α) (k0 : List Int → Int → Option α) (v68 : List Int) (v69 : Int) : Option α :=
  let x70 := (decide ((0 : Int) < v69))
  bif x70 then
    let x71 := (IntKind.i64.wrap (v69 - (1 : Int)))
    bif (decide (x71 < (0 : Int))) then
      none
    else
      match v68[x71.toNat]? with
      | some x72 =>
        let x73 := (decide (x72 = (0 : Int)))
        bif x73 then
          let x74 := (IntKind.i64.wrap (v69 - (1 : Int)))
          next v68 x74
        else
          k0 v68 v69
      | none => none
  else
    k0 v68 v69
noncomputable def spec_l5Trim_L0.b {α : Type} (N n : Nat) (v68 : List Int) (v69 : Int) (k0 : List Int → Int → Option α) : Option α :=
  Nat.rec (motive := fun _ => List Int → Int → Option α) (fun _ _ => none) (fun _ next => spec_l5Trim_L0r N next k0) n v68 v69
theorem spec_l5Trim_L0.ex : ∃ f : ((α : Type) → Nat → Nat → List Int → Int → (List Int → Int → Option α) → Option α), f = fun α => @spec_l5Trim_L0.b α := ⟨_, rfl⟩
noncomputable def spec_l5Trim_L0 {α : Type} : Nat → Nat → List Int → Int → (List Int → Int → Option α) → Option α := Classical.choose spec_l5Trim_L0.ex α
theorem spec_l5Trim_L0.eq : @spec_l5Trim_L0 = @spec_l5Trim_L0.b := funext fun α => congrFun (Classical.choose_spec spec_l5Trim_L0.ex) α
theorem spec_l5Trim_L0.zero {α : Type} (N : Nat) (v68 : List Int) (v69 : Int) (k0 : List Int → Int → Option α) : spec_l5Trim_L0 N 0 v68 v69 k0 = none := by rw [spec_l5Trim_L0.eq]; rfl
theorem spec_l5Trim_L0.succ {α : Type} (N n : Nat) (v68 : List Int) (v69 : Int) (k0 : List Int → Int → Option α) : spec_l5Trim_L0 N (n + 1) v68 v69 k0 = spec_l5Trim_L0r N (fun y0 y1 => spec_l5Trim_L0 N n y0 y1 k0) k0 v68 v69 := by rw [spec_l5Trim_L0.eq]; rfl
noncomputable def spec_l5Trim_L2r {α : Type} (N : Nat) (next : List Int → Int → Int → List Int → Option α) (k0 : List Int → Option α) (v77 : List Int) (v78 : Int) (v79 : Int) (v80 : List Int) : Option α :=
  let x81 := decide (v79 < v78)
  bif x81 then
    bif (decide (v79 < (0 : Int))) then
      none
    else
      match v77[v79.toNat]? with
      | some x82 =>
        let x83 := [x82]
        bif decide (v80.length + x83.length ≤ 8796093022208) then
          let x84 := v80 ++ x83
          let x85 := (IntKind.i64.wrap (v79 + (1 : Int)))
          next v77 v78 x85 x84
        else
          none
      | none => none
  else
    k0 v80
noncomputable def spec_l5Trim_L2.b {α : Type} (N n : Nat) (v77 : List Int) (v78 : Int) (v79 : Int) (v80 : List Int) (k0 : List Int → Option α) : Option α :=
  Nat.rec (motive := fun _ => List Int → Int → Int → List Int → Option α) (fun _ _ _ _ => none) (fun _ next => spec_l5Trim_L2r N next k0) n v77 v78 v79 v80
theorem spec_l5Trim_L2.ex : ∃ f : ((α : Type) → Nat → Nat → List Int → Int → Int → List Int → (List Int → Option α) → Option α), f = fun α => @spec_l5Trim_L2.b α := ⟨_, rfl⟩
noncomputable def spec_l5Trim_L2 {α : Type} : Nat → Nat → List Int → Int → Int → List Int → (List Int → Option α) → Option α := Classical.choose spec_l5Trim_L2.ex α
theorem spec_l5Trim_L2.eq : @spec_l5Trim_L2 = @spec_l5Trim_L2.b := funext fun α => congrFun (Classical.choose_spec spec_l5Trim_L2.ex) α
theorem spec_l5Trim_L2.zero {α : Type} (N : Nat) (v77 : List Int) (v78 : Int) (v79 : Int) (v80 : List Int) (k0 : List Int → Option α) : spec_l5Trim_L2 N 0 v77 v78 v79 v80 k0 = none := by rw [spec_l5Trim_L2.eq]; rfl
theorem spec_l5Trim_L2.succ {α : Type} (N n : Nat) (v77 : List Int) (v78 : Int) (v79 : Int) (v80 : List Int) (k0 : List Int → Option α) : spec_l5Trim_L2 N (n + 1) v77 v78 v79 v80 k0 = spec_l5Trim_L2r N (fun y0 y1 y2 y3 => spec_l5Trim_L2 N n y0 y1 y2 y3 k0) k0 v77 v78 v79 v80 := by rw [spec_l5Trim_L2.eq]; rfl
/-- loop.example/pinfold/spec.l5Trim -/
noncomputable def spec_l5Trim.b {α : Type} (N : Nat) (a66 : List Int) (k0 : List Int → Option α) : Option α :=
  let x67 := ((a66.length : Nat) : Int)
  spec_l5Trim_L0 N N a66 x67
    (fun x75 x76 =>
      spec_l5Trim_L2 N N x75 x76 (0 : Int) []
        (fun x86 =>
          k0 x86))
theorem spec_l5Trim.ex : ∃ f : ((α : Type) → Nat → List Int → (List Int → Option α) → Option α), f = fun α => @spec_l5Trim.b α := ⟨_, rfl⟩
noncomputable def spec_l5Trim {α : Type} : Nat → List Int → (List Int → Option α) → Option α := Classical.choose spec_l5Trim.ex α
theorem spec_l5Trim.eq : @spec_l5Trim = @spec_l5Trim.b := funext fun α => congrFun (Classical.choose_spec spec_l5Trim.ex) α

noncomputable def spec_l5Cmp_L0r {α : Type} (N : Nat) (next : List Int → List Int → Int → Option α) (k0 : Int → Option α) (k1 : Option α) (v105 : List Int) (v106 : List Int) (v107 : Int) : Option α :=
  let x108 := (decide ((0 : Int) ≤ v107))
  bif x108 then
    bif (decide (v107 < (0 : Int))) then
      none
    else
      match v105[v107.toNat]? with
      | some x109 =>
        bif (decide (v107 < (0 : Int))) then
          none
        else
          match v106[v107.toNat]? with
          | some x110 =>
            let x111 := decide (x109 < x110)
            bif x111 then
              k0 (-1 : Int)
            else
              bif (decide (v107 < (0 : Int))) then
                none
              else
                match v105[v107.toNat]? with
                | some x112 =>
                  bif (decide (v107 < (0 : Int))) then
                    none
                  else
                    match v106[v107.toNat]? with
                    | some x113 =>
                      let x114 := decide (x113 < x112)
                      bif x114 then
                        k0 (1 : Int)
                      else
                        let x115 := (IntKind.i64.wrap (v107 - (1 : Int)))
                        next v105 v106 x115
                    | none => none
                | none => none
          | none => none
      | none => none
  else
    k1
noncomputable def spec_l5Cmp_L0.b {α : Type} (N n : Nat) (v105 : List Int) (v106 : List Int) (v107 : Int) (k0 : Int → Option α) (k1 : Option α) : Option α :=
  Nat.rec (motive := fun _ => List Int → List Int → Int → Option α) (fun _ _ _ => none) (fun _ next => spec_l5Cmp_L0r N next k0 k1) n v105 v106 v107
theorem spec_l5Cmp_L0.ex : ∃ f : ((α : Type) → Nat → Nat → List Int → List Int → Int → (Int → Option α) → (Option α) → Option α), f = fun α => @spec_l5Cmp_L0.b α := ⟨_, rfl⟩
noncomputable def spec_l5Cmp_L0 {α : Type} : Nat → Nat → List Int → List Int → Int → (Int → Option α) → (Option α) → Option α := Classical.choose spec_l5Cmp_L0.ex α
theorem spec_l5Cmp_L0.eq : @spec_l5Cmp_L0 = @spec_l5Cmp_L0.b := funext fun α => congrFun (Classical.choose_spec spec_l5Cmp_L0.ex) α
theorem spec_l5Cmp_L0.zero {α : Type} (N : Nat) (v105 : List Int) (v106 : List Int) (v107 : Int) (k0 : Int → Option α) (k1 : Option α) : spec_l5Cmp_L0 N 0 v105 v106 v107 k0 k1 = none := by rw [spec_l5Cmp_L0.eq]; rfl
theorem spec_l5Cmp_L0.succ {α : Type} (N n : Nat) (v105 : List Int) (v106 : List Int) (v107 : Int) (k0 : Int → Option α) (k1 : Option α) : spec_l5Cmp_L0 N (n + 1) v105 v106 v107 k0 k1 = spec_l5Cmp_L0r N (fun y0 y1 y2 => spec_l5Cmp_L0 N n y0 y1 y2 k0 k1) k0 k1 v105 v106 v107 := by rw [spec_l5Cmp_L0.eq]; rfl
/-- loop.example/pinfold/spec.l5Cmp -/
noncomputable def spec_l5Cmp.b {α : Type} (N : Nat) (a95 : List Int) (a96 : List Int) (k0 : Int → Option α) : Option α :=
  let x97 := ((a95.length : Nat) : Int)
  let x98 := ((a96.length : Nat) : Int)
  let x99 := decide (x97 < x98)
  bif x99 then
    k0 (-1 : Int)
  else
    let x100 := ((a95.length : Nat) : Int)
    let x101 := ((a96.length : Nat) : Int)
    let x102 := decide (x101 < x100)
    bif x102 then
      k0 (1 : Int)
    else
      let x103 := ((a95.length : Nat) : Int)
      let x104 := (IntKind.i64.wrap (x103 - (1 : Int)))
      spec_l5Cmp_L0 N N a95 a96 x104
        (fun x116 =>
          k0 x116)
        (
          k0 (0 : Int))
theorem spec_l5Cmp.ex : ∃ f : ((α : Type) → Nat → List Int → List Int → (Int → Option α) → Option α), f = fun α => @spec_l5Cmp.b α := ⟨_, rfl⟩
noncomputable def spec_l5Cmp {α : Type} : Nat → List Int → List Int → (Int → Option α) → Option α := Classical.choose spec_l5Cmp.ex α
theorem spec_l5Cmp.eq : @spec_l5Cmp = @spec_l5Cmp.b := funext fun α => congrFun (Classical.choose_spec spec_l5Cmp.ex) α

noncomputable def spec_l5DivSmall_L0r {α : Type} (N : Nat) (next : List Int → Int → Int → Int → List Int → Option α) (k0 : Int → List Int → Option α) (v129 : List Int) (v130 : Int) (v131 : Int) (v132 : Int) (v133 : List Int) : Option α :=
  let x134 := (decide ((0 : Int) ≤ v132))
  bif x134 then
    let x135 := (IntKind.i64.wrap (v131 * (65536 : Int)))
    bif (decide (v132 < (0 : Int))) then
      none
    else
      match v129[v132.toNat]? with
      | some x136 =>
        let x137 := IntKind.i64.wrap (x135 + x136)
        bif (decide (v130 = (0 : Int))) then
          none
        else
          let x138 := IntKind.i64.wrap (Int.tdiv x137 v130)
          bif (decide (v132 < (0 : Int))) then
            none
          else
            bif decide (v132.toNat < v133.length) then
              match v133[v132.toNat]? with
              | some x139 =>
                let x140 := v133.set v132.toNat x138
                bif (decide (v130 = (0 : Int))) then
                  none
                else
                  let x141 := Int.tmod x137 v130
                  let x142 := (IntKind.i64.wrap (v132 - (1 : Int)))
                  next v129 v130 x141 x142 x140
              | none => none
            else
              none
      | none => none
  else
    k0 v131 v133
noncomputable def spec_l5DivSmall_L0.b {α : Type} (N n : Nat) (v129 : List Int) (v130 : Int) (v131 : Int) (v132 : Int) (v133 : List Int) (k0 : Int → List Int → Option α) : Option α :=
  Nat.rec (motive := fun _ => List Int → Int → Int → Int → List Int → Option α) (fun _ _ _ _ _ => none) (fun _ next => spec_l5DivSmall_L0r N next k0) n v129 v130 v131 v132 v133
theorem spec_l5DivSmall_L0.ex : ∃ f : ((α : Type) → Nat → Nat → List Int → Int → Int → Int → List Int → (Int → List Int → Option α) → Option α), f = fun α => @spec_l5DivSmall_L0.b α := ⟨_, rfl⟩
noncomputable def spec_l5DivSmall_L0 {α : Type} : Nat → Nat → List Int → Int → Int → Int → List Int → (Int → List Int → Option α) → Option α := Classical.choose spec_l5DivSmall_L0.ex α
theorem spec_l5DivSmall_L0.eq : @spec_l5DivSmall_L0 = @spec_l5DivSmall_L0.b := funext fun α => congrFun (Classical.choose_spec spec_l5DivSmall_L0.ex) α
theorem spec_l5DivSmall_L0.zero {α : Type} (N : Nat) (v129 : List Int) (v130 : Int) (v131 : Int) (v132 : Int) (v133 : List Int) (k0 : Int → List Int → Option α) : spec_l5DivSmall_L0 N 0 v129 v130 v131 v132 v133 k0 = none := by rw [spec_l5DivSmall_L0.eq]; rfl
theorem spec_l5DivSmall_L0.succ {α : Type} (N n : Nat) (v129 : List Int) (v130 : Int) (v131 : Int) (v132 : Int) (v133 : List Int) (k0 : Int → List Int → Option α) : spec_l5DivSmall_L0 N (n + 1) v129 v130 v131 v132 v133 k0 = spec_l5DivSmall_L0r N (fun y0 y1 y2 y3 y4 => spec_l5DivSmall_L0 N n y0 y1 y2 y3 y4 k0) k0 v129 v130 v131 v132 v133 := by rw [spec_l5DivSmall_L0.eq]; rfl
/-- loop.example/pinfold/spec.l5DivSmall -/
noncomputable def spec_l5DivSmall.b {α : Type} (N : Nat) (a123 : List Int) (a124 : Int) (k0 : Int → List Int → Option α) : Option α :=
  let x125 := ((a123.length : Nat) : Int)
  bif (decide ((0 : Int) ≤ x125)) then
    bif decide (x125 ≤ x125) then
      bif (decide (x125 ≤ ((8796093022208 : Nat) : Int))) then
        let x126 := (List.replicate x125.toNat (0 : Int))
        let x127 := ((a123.length : Nat) : Int)
        let x128 := (IntKind.i64.wrap (x127 - (1 : Int)))
        spec_l5DivSmall_L0 N N a123 a124 (0 : Int) x128 x126
          (fun x143 x144 =>
            spec_l5Trim N x144
              (fun x145 =>
                k0 x143 x145))
      else
        none
    else
      none
  else
    none
theorem spec_l5DivSmall.ex : ∃ f : ((α : Type) → Nat → List Int → Int → (Int → List Int → Option α) → Option α), f = fun α => @spec_l5DivSmall.b α := ⟨_, rfl⟩
noncomputable def spec_l5DivSmall {α : Type} : Nat → List Int → Int → (Int → List Int → Option α) → Option α := Classical.choose spec_l5DivSmall.ex α
theorem spec_l5DivSmall.eq : @spec_l5DivSmall = @spec_l5DivSmall.b := funext fun α => congrFun (Classical.choose_spec spec_l5DivSmall.ex) α

noncomputable def spec_NatOf_L0r {α : Type} (N : Nat) (next : Int → List Int → Option α) (k0 : List Int → Option α) (v150 : Int) (v151 : List Int) : Option α :=
  let x152 := (decide ((0 : Int) < v150))
  bif x152 then
    let x153 := (Int.tmod v150 (65536 : Int))
    let x154 := IntKind.i64.wrap x153
    let x155 := [x154]
    bif decide (v151.length + x155.length ≤ 8796093022208) then
      let x156 := v151 ++ x155
      let x157 := (IntKind.u64.wrap (Int.tdiv v150 (65536 : Int)))
      next x157 x156
    else
      none
  else
    k0 v151
noncomputable def spec_NatOf_L0.b {α : Type} (N n : Nat) (v150 : Int) (v151 : List Int) (k0 : List Int → Option α) : Option α :=
  Nat.rec (motive := fun _ => Int → List Int → Option α) (fun _ _ => none) (fun _ next => spec_NatOf_L0r N next k0) n v150 v151
theorem spec_NatOf_L0.ex : ∃ f : ((α : Type) → Nat → Nat → Int → List Int → (List Int → Option α) → Option α), f = fun α => @spec_NatOf_L0.b α := ⟨_, rfl⟩
noncomputable def spec_NatOf_L0 {α : Type} : Nat → Nat → Int → List Int → (List Int → Option α) → Option α := Classical.choose spec_NatOf_L0.ex α
theorem spec_NatOf_L0.eq : @spec_NatOf_L0 = @spec_NatOf_L0.b := funext fun α => congrFun (Classical.choose_spec spec_NatOf_L0.ex) α
theorem spec_NatOf_L0.zero {α : Type} (N : Nat) (v150 : Int) (v151 : List Int) (k0 : List Int → Option α) : spec_NatOf_L0 N 0 v150 v151 k0 = none := by rw [spec_NatOf_L0.eq]; rfl
theorem spec_NatOf_L0.succ {α : Type} (N n : Nat) (v150 : Int) (v151 : List Int) (k0 : List Int → Option α) : spec_NatOf_L0 N (n + 1) v150 v151 k0 = spec_NatOf_L0r N (fun y0 y1 => spec_NatOf_L0 N n y0 y1 k0) k0 v150 v151 := by rw [spec_NatOf_L0.eq]; rfl
/-- loop.example/pinfold/spec.NatOf -/
noncomputable def spec_NatOf.b {α : Type} (N : Nat) (a149 : Int) (k0 : List Int → Option α) : Option α :=
  spec_NatOf_L0 N N a149 []
    (fun x158 =>
      k0 x158)
theorem spec_NatOf.ex : ∃ f : ((α : Type) → Nat → Int → (List Int → Option α) → Option α), f = fun α => @spec_NatOf.b α := ⟨_, rfl⟩
noncomputable def spec_NatOf {α : Type} : Nat → Int → (List Int → Option α) → Option α := Classical.choose spec_NatOf.ex α
theorem spec_NatOf.eq : @spec_NatOf = @spec_NatOf.b := funext fun α => congrFun (Classical.choose_spec spec_NatOf.ex) α

noncomputable def spec_l5Mul_L2r {α : Type} (N : Nat) (next : List Int → List Int → Int → Int → Int → List Int → Option α) (k0 : List Int → List Int → Int → Int → List Int → Option α) (v181 : List Int) (v182 : List Int) (v183 : Int) (v184 : Int) (v185 : Int) (v186 : List Int) : Option α :=
  let x187 := ((v182.length : Nat) : Int)
  let x188 := decide (v185 < x187)
  bif x188 then
    let x189 := IntKind.i64.wrap (v183 + v185)
    bif (decide (x189 < (0 : Int))) then
      none
    else
      bif decide (x189.toNat < v186.length) then
        match v186[x189.toNat]? with
        | some x190 =>
          bif (decide (v183 < (0 : Int))) then
            none
          else
            match v181[v183.toNat]? with
            | some x191 =>
              bif (decide (v185 < (0 : Int))) then
                none
              else
                match v182[v185.toNat]? with
                | some x192 =>
                  let x193 := IntKind.i64.wrap (x191 * x192)
                  let x194 := IntKind.i64.wrap (x190 + x193)
                  let x195 := IntKind.i64.wrap (x194 + v184)
                  let x196 := IntKind.i64.wrap (v183 + v185)
                  let x197 := (Int.tmod x195 (65536 : Int))
                  bif (decide (x196 < (0 : Int))) then
                    none
                  else
                    bif decide (x196.toNat < v186.length) then
                      match v186[x196.toNat]? with
                      | some x198 =>
                        let x199 := v186.set x196.toNat x197
                        let x200 := (IntKind.i64.wrap (Int.tdiv x195 (65536 : Int)))
                        let x201 := (IntKind.i64.wrap (v185 + (1 : Int)))
                        next v181 v182 v183 x200 x201 x199
                      | none => none
                    else
                      none
                | none => none
            | none => none
        | none => none
      else
        none
  else
    k0 v181 v182 v183 v184 v186
noncomputable def spec_l5Mul_L2.b {α : Type} (N n : Nat) (v181 : List Int) (v182 : List Int) (v183 : Int) (v184 : Int) (v185 : Int) (v186 : List Int) (k0 : List Int → List Int → Int → Int → List Int → Option α) : Option α :=
  Nat.rec (motive := fun _ => List Int → List Int → Int → Int → Int → List Int → Option α) (fun _ _ _ _ _ _ => none) (fun _ next => spec_l5Mul_L2r N next k0) n v181 v182 v183 v184 v185 v186
theorem spec_l5Mul_L2.ex : ∃ f : ((α : Type) → Nat → Nat → List Int → List Int → Int → Int → Int → List Int → (List Int → List Int → Int → Int → List Int → Option α) → Option α), f = fun α => @spec_l5Mul_L2.b α := ⟨_, rfl⟩
noncomputable def spec_l5Mul_L2 {α : Type} : Nat → Nat → List Int → List Int → Int → Int → Int → List Int → (List Int → List Int → Int → Int → List Int → Option α) → Option α := Classical.choose spec_l5Mul_L2.ex α
theorem spec_l5Mul_L2.eq : @spec_l5Mul_L2 = @spec_l5Mul_L2.b := funext fun α => congrFun (Classical.choose_spec spec_l5Mul_L2.ex) α
theorem spec_l5Mul_L2.zero {α : Type} (N : Nat) (v181 : List Int) (v182 : List Int) (v183 : Int) (v184 : Int) (v185 : Int) (v186 : List Int) (k0 : List Int → List Int → Int → Int → List Int → Option α) : spec_l5Mul_L2 N 0 v181 v182 v183 v184 v185 v186 k0 = none := by rw [spec_l5Mul_L2.eq]; rfl
theorem spec_l5Mul_L2.succ {α : Type} (N n : Nat) (v181 : List Int) (v182 : List Int) (v183 : Int) (v184 : Int) (v185 : Int) (v186 : List Int) (k0 : List Int → List Int → Int → Int → List Int → Option α) : spec_l5Mul_L2 N (n + 1) v181 v182 v183 v184 v185 v186 k0 = spec_l5Mul_L2r N (fun y0 y1 y2 y3 y4 y5 => spec_l5Mul_L2 N n y0 y1 y2 y3 y4 y5 k0) k0 v181 v182 v183 v184 v185 v186 := by rw [spec_l5Mul_L2.eq]; rfl
noncomputable def spec_l5Mul_L0r {α : Type} (N : Nat) (next : List Int → List Int → Int → List Int → Option α) (k0 : List Int → Option α) (v175 : List Int) (v176 : List Int) (v177 : Int) (v178 : List Int) : Option α :=
  let x179 := ((v175.length : Nat) : Int)
  let x180 := decide (v177 < x179)
  bif x180 then
    spec_l5Mul_L2 N N v175 v176 v177 (0 : Int) (0 : Int) v178
      (fun x202 x203 x204 x205 x206 =>
        let x207 := ((x203.length : Nat) : Int)
        let x208 := IntKind.i64.wrap (x204 + x207)
        bif (decide (x208 < (0 : Int))) then
          none
        else
          bif decide (x208.toNat < x206.length) then
            match x206[x208.toNat]? with
            | some x209 =>
              let x210 := x206.set x208.toNat x205
              let x211 := (IntKind.i64.wrap (x204 + (1 : Int)))
              next x202 x203 x211 x210
            | none => none
          else
            none)
  else
    k0 v178
noncomputable def spec_l5Mul_L0.b {α : Type} (N n : Nat) (v175 : List Int) (v176 : List Int) (v177 : Int) (v178 : List Int) (k0 : List Int → Option α) : Option α :=
  Nat.rec (motive := fun _ => List Int → List Int → Int → List Int → Option α) (fun _ _ _ _ => none) (fun _ next => spec_l5Mul_L0r N next k0) n v175 v176 v177 v178
theorem spec_l5Mul_L0.ex : ∃ f : ((α : Type) → Nat → Nat → List Int → List Int → Int → List Int → (List Int → Option α) → Option α), f = fun α => @spec_l5Mul_L0.b α := ⟨_, rfl⟩
noncomputable def spec_l5Mul_L0 {α : Type} : Nat → Nat → List Int → List Int → Int → List Int → (List Int → Option α) → Option α := Classical.choose spec_l5Mul_L0.ex α
theorem spec_l5Mul_L0.eq : @spec_l5Mul_L0 = @spec_l5Mul_L0.b := funext fun α => congrFun (Classical.choose_spec spec_l5Mul_L0.ex) α
theorem spec_l5Mul_L0.zero {α : Type} (N : Nat) (v175 : List Int) (v176 : List Int) (v177 : Int) (v178 : List Int) (k0 : List Int → Option α) : spec_l5Mul_L0 N 0 v175 v176 v177 v178 k0 = none := by rw [spec_l5Mul_L0.eq]; rfl
theorem spec_l5Mul_L0.succ {α : Type} (N n : Nat) (v175 : List Int) (v176 : List Int) (v177 : Int) (v178 : List Int) (k0 : List Int → Option α) : spec_l5Mul_L0 N (n + 1) v175 v176 v177 v178 k0 = spec_l5Mul_L0r N (fun y0 y1 y2 y3 => spec_l5Mul_L0 N n y0 y1 y2 y3 k0) k0 v175 v176 v177 v178 := by rw [spec_l5Mul_L0.eq]; rfl
/-- loop.example/pinfold/spec.l5Mul -/
noncomputable def spec_l5Mul.b {α : Type} (N : Nat) (a169 : List Int) (a170 : List Int) (k0 : List Int → Option α) : Option α :=
  let x171 := ((a169.length : Nat) : Int)
  let x172 := ((a170.length : Nat) : Int)
  let x173 := IntKind.i64.wrap (x171 + x172)
  bif (decide ((0 : Int) ≤ x173)) then
    bif decide (x173 ≤ x173) then
      bif (decide (x173 ≤ ((8796093022208 : Nat) : Int))) then
        let x174 := (List.replicate x173.toNat (0 : Int))
        spec_l5Mul_L0 N N a169 a170 (0 : Int) x174
          (fun x212 =>
            spec_l5Trim N x212
              (fun x213 =>
                k0 x213))
      else
        none
    else
      none
  else
    none
theorem spec_l5Mul.ex : ∃ f : ((α : Type) → Nat → List Int → List Int → (List Int → Option α) → Option α), f = fun α => @spec_l5Mul.b α := ⟨_, rfl⟩
noncomputable def spec_l5Mul {α : Type} : Nat → List Int → List Int → (List Int → Option α) → Option α := Classical.choose spec_l5Mul.ex α
theorem spec_l5Mul.eq : @spec_l5Mul = @spec_l5Mul.b := funext fun α => congrFun (Classical.choose_spec spec_l5Mul.ex) α

/-- loop.example/pinfold/spec.l5Times -/
noncomputable def spec_l5Times.b {α : Type} (N : Nat) (a165 : List Int) (a166 : Int) (k0 : List Int → Option α) : Option α :=
  let x167 := (decide (a166 = (0 : Int)))
  bif x167 then
    k0 []
  else
    let x168 := [a166]
    spec_l5Mul N a165 x168
      (fun x214 =>
        k0 x214)
theorem spec_l5Times.ex : ∃ f : ((α : Type) → Nat → List Int → Int → (List Int → Option α) → Option α), f = fun α => @spec_l5Times.b α := ⟨_, rfl⟩
noncomputable def spec_l5Times {α : Type} : Nat → List Int → Int → (List Int → Option α) → Option α := Classical.choose spec_l5Times.ex α
theorem spec_l5Times.eq : @spec_l5Times = @spec_l5Times.b := funext fun α => congrFun (Classical.choose_spec spec_l5Times.ex) α

noncomputable def spec_l5Top_L0r {α : Type} (N : Nat) (next : List Int → Int → List Int → Option α) (k0 : List Int → Option α) (v227 : List Int) (v228 : Int) (v229 : List Int) : Option α :=
  let x230 := ((v227.length : Nat) : Int)
  let x231 := decide (v228 < x230)
  bif x231 then
    bif (decide (v228 < (0 : Int))) then
      none
    else
      match v227[v228.toNat]? with
      | some x232 =>
        let x233 := [x232]
        bif decide (v229.length + x233.length ≤ 8796093022208) then
          let x234 := v229 ++ x233
          let x235 := (IntKind.i64.wrap (v228 + (1 : Int)))
          next v227 x235 x234
        else
          none
      | none => none
  else
    k0 v229
noncomputable def spec_l5Top_L0.b {α : Type} (N n : Nat) (v227 : List Int) (v228 : Int) (v229 : List Int) (k0 : List Int → Option α) : Option α :=
  Nat.rec (motive := fun _ => List Int → Int → List Int → Option α) (fun _ _ _ => none) (fun _ next => spec_l5Top_L0r N next k0) n v227 v228 v229
theorem spec_l5Top_L0.ex : ∃ f : ((α : Type) → Nat → Nat → List Int → Int → List Int → (List Int → Option α) → Option α), f = fun α => @spec_l5Top_L0.b α := ⟨_, rfl⟩
noncomputable def spec_l5Top_L0 {α : Type} : Nat → Nat → List Int → Int → List Int → (List Int → Option α) → Option α := Classical.choose spec_l5Top_L0.ex α
theorem spec_l5Top_L0.eq : @spec_l5Top_L0 = @spec_l5Top_L0.b := funext fun α => congrFun (Classical.choose_spec spec_l5Top_L0.ex) α
theorem spec_l5Top_L0.zero {α : Type} (N : Nat) (v227 : List Int) (v228 : Int) (v229 : List Int) (k0 : List Int → Option α) : spec_l5Top_L0 N 0 v227 v228 v229 k0 = none := by rw [spec_l5Top_L0.eq]; rfl
theorem spec_l5Top_L0.succ {α : Type} (N n : Nat) (v227 : List Int) (v228 : Int) (v229 : List Int) (k0 : List Int → Option α) : spec_l5Top_L0 N (n + 1) v227 v228 v229 k0 = spec_l5Top_L0r N (fun y0 y1 y2 => spec_l5Top_L0 N n y0 y1 y2 k0) k0 v227 v228 v229 := by rw [spec_l5Top_L0.eq]; rfl
/-- loop.example/pinfold/spec.l5Top -/
noncomputable def spec_l5Top.b {α : Type} (N : Nat) (a225 : List Int) (a226 : Int) (k0 : List Int → Option α) : Option α :=
  spec_l5Top_L0 N N a225 a226 []
    (fun x236 =>
      k0 x236)
theorem spec_l5Top.ex : ∃ f : ((α : Type) → Nat → List Int → Int → (List Int → Option α) → Option α), f = fun α => @spec_l5Top.b α := ⟨_, rfl⟩
noncomputable def spec_l5Top {α : Type} : Nat → List Int → Int → (List Int → Option α) → Option α := Classical.choose spec_l5Top.ex α
theorem spec_l5Top.eq : @spec_l5Top = @spec_l5Top.b := funext fun α => congrFun (Classical.choose_spec spec_l5Top.ex) α

noncomputable def spec_l5Shl_L0r {α : Type} (N : Nat) (next : List Int → Int → List Int → Option α) (k0 : List Int → Option α) (v253 : List Int) (v254 : Int) (v255 : List Int) : Option α :=
  let x256 := ((v253.length : Nat) : Int)
  let x257 := decide (v254 < x256)
  bif x257 then
    bif (decide (v254 < (0 : Int))) then
      none
    else
      match v253[v254.toNat]? with
      | some x258 =>
        let x259 := [x258]
        bif decide (v255.length + x259.length ≤ 8796093022208) then
          let x260 := v255 ++ x259
          let x261 := (IntKind.i64.wrap (v254 + (1 : Int)))
          next v253 x261 x260
        else
          none
      | none => none
  else
    k0 v255
noncomputable def spec_l5Shl_L0.b {α : Type} (N n : Nat) (v253 : List Int) (v254 : Int) (v255 : List Int) (k0 : List Int → Option α) : Option α :=
  Nat.rec (motive := fun _ => List Int → Int → List Int → Option α) (fun _ _ _ => none) (fun _ next => spec_l5Shl_L0r N next k0) n v253 v254 v255
theorem spec_l5Shl_L0.ex : ∃ f : ((α : Type) → Nat → Nat → List Int → Int → List Int → (List Int → Option α) → Option α), f = fun α => @spec_l5Shl_L0.b α := ⟨_, rfl⟩
noncomputable def spec_l5Shl_L0 {α : Type} : Nat → Nat → List Int → Int → List Int → (List Int → Option α) → Option α := Classical.choose spec_l5Shl_L0.ex α
theorem spec_l5Shl_L0.eq : @spec_l5Shl_L0 = @spec_l5Shl_L0.b := funext fun α => congrFun (Classical.choose_spec spec_l5Shl_L0.ex) α
theorem spec_l5Shl_L0.zero {α : Type} (N : Nat) (v253 : List Int) (v254 : Int) (v255 : List Int) (k0 : List Int → Option α) : spec_l5Shl_L0 N 0 v253 v254 v255 k0 = none := by rw [spec_l5Shl_L0.eq]; rfl
theorem spec_l5Shl_L0.succ {α : Type} (N n : Nat) (v253 : List Int) (v254 : Int) (v255 : List Int) (k0 : List Int → Option α) : spec_l5Shl_L0 N (n + 1) v253 v254 v255 k0 = spec_l5Shl_L0r N (fun y0 y1 y2 => spec_l5Shl_L0 N n y0 y1 y2 k0) k0 v253 v254 v255 := by rw [spec_l5Shl_L0.eq]; rfl
/-- loop.example/pinfold/spec.l5Shl -/
noncomputable def spec_l5Shl.b {α : Type} (N : Nat) (a248 : List Int) (a249 : Int) (k0 : List Int → Option α) : Option α :=
  let x250 := ((a248.length : Nat) : Int)
  let x251 := (decide (x250 = (0 : Int)))
  bif x251 then
    k0 []
  else
    bif (decide ((0 : Int) ≤ a249)) then
      bif decide (a249 ≤ a249) then
        bif (decide (a249 ≤ ((8796093022208 : Nat) : Int))) then
          let x252 := (List.replicate a249.toNat (0 : Int))
          spec_l5Shl_L0 N N a248 (0 : Int) x252
            (fun x262 =>
              k0 x262)
        else
          none
      else
        none
    else
      none
theorem spec_l5Shl.ex : ∃ f : ((α : Type) → Nat → List Int → Int → (List Int → Option α) → Option α), f = fun α => @spec_l5Shl.b α := ⟨_, rfl⟩
noncomputable def spec_l5Shl {α : Type} : Nat → List Int → Int → (List Int → Option α) → Option α := Classical.choose spec_l5Shl.ex α
theorem spec_l5Shl.eq : @spec_l5Shl = @spec_l5Shl.b := funext fun α => congrFun (Classical.choose_spec spec_l5Shl.ex) α

/-- loop.example/pinfold/spec.l5At -/
noncomputable def spec_l5At.b {α : Type} (N : Nat) (a286 : List Int) (a287 : Int) (k0 : Int → Option α) : Option α :=
  let x288 := ((a286.length : Nat) : Int)
  let x289 := decide (a287 < x288)
  bif x289 then
    bif (decide (a287 < (0 : Int))) then
      none
    else
      match a286[a287.toNat]? with
      | some x290 =>
        k0 x290
      | none => none
  else
    k0 (0 : Int)
theorem spec_l5At.ex : ∃ f : ((α : Type) → Nat → List Int → Int → (Int → Option α) → Option α), f = fun α => @spec_l5At.b α := ⟨_, rfl⟩
noncomputable def spec_l5At {α : Type} : Nat → List Int → Int → (Int → Option α) → Option α := Classical.choose spec_l5At.ex α
theorem spec_l5At.eq : @spec_l5At = @spec_l5At.b := funext fun α => congrFun (Classical.choose_spec spec_l5At.ex) α

noncomputable def spec_l5Add_J2.b {α : Type} (N : Nat) (v270 : List Int) (v271 : List Int) (v272 : Int) (k0 : List Int → List Int → Int → Option α) : Option α :=
  let x273 := ((v271.length : Nat) : Int)
  let x274 := decide (v272 < x273)
  bif x274 then
    let x275 := ((v271.length : Nat) : Int)
    k0 v270 v271 x275
  else
    k0 v270 v271 v272
theorem spec_l5Add_J2.ex : ∃ f : ((α : Type) → Nat → List Int → List Int → Int → (List Int → List Int → Int → Option α) → Option α), f = fun α => @spec_l5Add_J2.b α := ⟨_, rfl⟩
noncomputable def spec_l5Add_J2 {α : Type} : Nat → List Int → List Int → Int → (List Int → List Int → Int → Option α) → Option α := Classical.choose spec_l5Add_J2.ex α
theorem spec_l5Add_J2.eq : @spec_l5Add_J2 = @spec_l5Add_J2.b := funext fun α => congrFun (Classical.choose_spec spec_l5Add_J2.ex) α
noncomputable def spec_l5Add_L0r {α : Type} (N : Nat) (next : List Int → List Int → Int → Int → Int → List Int → Option α) (k0 : Int → List Int → Option α) (v279 : List Int) (v280 : List Int) (v281 : Int) (v282 : Int) (v283 : Int) (v284 : List Int) : Option α :=
  let x285 := decide (v283 < v281)
  bif x285 then
    spec_l5At N v279 v283
      (fun x291 =>
        spec_l5At N v280 v283
          (fun x292 =>
            let x293 := IntKind.i64.wrap (x291 + x292)
            let x294 := IntKind.i64.wrap (x293 + v282)
            let x295 := (Int.tmod x294 (65536 : Int))
            let x296 := [x295]
            bif decide (v284.length + x296.length ≤ 8796093022208) then
              let x297 := v284 ++ x296
              let x298 := (IntKind.i64.wrap (Int.tdiv x294 (65536 : Int)))
              let x299 := (IntKind.i64.wrap (v283 + (1 : Int)))
              next v279 v280 v281 x298 x299 x297
            else
              none))
  else
    k0 v282 v284
noncomputable def spec_l5Add_L0.b {α : Type} (N n : Nat) (v279 : List Int) (v280 : List Int) (v281 : Int) (v282 : Int) (v283 : Int) (v284 : List Int) (k0 : Int → List Int → Option α) : Option α :=
  Nat.rec (motive := fun _ => List Int → List Int → Int → Int → Int → List Int → Option α) (fun _ _ _ _ _ _ => none) (fun _ next => spec_l5Add_L0r N next k0) n v279 v280 v281 v282 v283 v284
theorem spec_l5Add_L0.ex : ∃ f : ((α : Type) → Nat → Nat → List Int → List Int → Int → Int → Int → List Int → (Int → List Int → Option α) → Option α), f = fun α => @spec_l5Add_L0.b α := ⟨_, rfl⟩
noncomputable def spec_l5Add_L0 {α : Type} : Nat → Nat → List Int → List Int → Int → Int → Int → List Int → (Int → List Int → Option α) → Option α := Classical.choose spec_l5Add_L0.ex α
theorem spec_l5Add_L0.eq : @spec_l5Add_L0 = @spec_l5Add_L0.b := funext fun α => congrFun (Classical.choose_spec spec_l5Add_L0.ex) α
theorem spec_l5Add_L0.zero {α : Type} (N : Nat) (v279 : List Int) (v280 : List Int) (v281 : Int) (v282 : Int) (v283 : Int) (v284 : List Int) (k0 : Int → List Int → Option α) : spec_l5Add_L0 N 0 v279 v280 v281 v282 v283 v284 k0 = none := by rw [spec_l5Add_L0.eq]; rfl
theorem spec_l5Add_L0.succ {α : Type} (N n : Nat) (v279 : List Int) (v280 : List Int) (v281 : Int) (v282 : Int) (v283 : Int) (v284 : List Int) (k0 : Int → List Int → Option α) : spec_l5Add_L0 N (n + 1) v279 v280 v281 v282 v283 v284 k0 = spec_l5Add_L0r N (fun y0 y1 y2 y3 y4 y5 => spec_l5Add_L0 N n y0 y1 y2 y3 y4 y5 k0) k0 v279 v280 v281 v282 v283 v284 := by rw [spec_l5Add_L0.eq]; rfl
noncomputable def spec_l5Add_J12.b {α : Type} (N : Nat) (v302 : Int) (v303 : List Int) (k0 : List Int → Option α) : Option α :=
  let x304 := (decide ((0 : Int) < v302))
  bif x304 then
    let x305 := [v302]
    bif decide (v303.length + x305.length ≤ 8796093022208) then
      let x306 := v303 ++ x305
      k0 x306
    else
      none
  else
    k0 v303
theorem spec_l5Add_J12.ex : ∃ f : ((α : Type) → Nat → Int → List Int → (List Int → Option α) → Option α), f = fun α => @spec_l5Add_J12.b α := ⟨_, rfl⟩
noncomputable def spec_l5Add_J12 {α : Type} : Nat → Int → List Int → (List Int → Option α) → Option α := Classical.choose spec_l5Add_J12.ex α
theorem spec_l5Add_J12.eq : @spec_l5Add_J12 = @spec_l5Add_J12.b := funext fun α => congrFun (Classical.choose_spec spec_l5Add_J12.ex) α
/-- loop.example/pinfold/spec.l5Add -/
noncomputable def spec_l5Add.b {α : Type} (N : Nat) (a267 : List Int) (a268 : List Int) (k0 : List Int → Option α) : Option α :=
  let x269 := ((a267.length : Nat) : Int)
  spec_l5Add_J2 N a267 a268 x269
    (fun x276 x277 x278 =>
      spec_l5Add_L0 N N x276 x277 x278 (0 : Int) (0 : Int) []
        (fun x300 x301 =>
          spec_l5Add_J12 N x300 x301
            (fun x307 =>
              k0 x307)))
theorem spec_l5Add.ex : ∃ f : ((α : Type) → Nat → List Int → List Int → (List Int → Option α) → Option α), f = fun α => @spec_l5Add.b α := ⟨_, rfl⟩
noncomputable def spec_l5Add {α : Type} : Nat → List Int → List Int → (List Int → Option α) → Option α := Classical.choose spec_l5Add.ex α
theorem spec_l5Add.eq : @spec_l5Add = @spec_l5Add.b := funext fun α => congrFun (Classical.choose_spec spec_l5Add.ex) α

noncomputable def spec_l5Sub_J8.b {α : Type} (N : Nat) (v360 : List Int) (v361 : List Int) (v362 : Int) (v363 : Int) (v364 : Int) (v365 : List Int) (k0 : List Int → List Int → Int → Int → Int → List Int → Option α) : Option α :=
  let x366 := (decide (v364 < (0 : Int)))
  bif x366 then
    let x367 := (IntKind.i64.wrap (v364 + (65536 : Int)))
    k0 v360 v361 (1 : Int) v363 x367 v365
  else
    k0 v360 v361 v362 v363 v364 v365
theorem spec_l5Sub_J8.ex : ∃ f : ((α : Type) → Nat → List Int → List Int → Int → Int → Int → List Int → (List Int → List Int → Int → Int → Int → List Int → Option α) → Option α), f = fun α => @spec_l5Sub_J8.b α := ⟨_, rfl⟩
noncomputable def spec_l5Sub_J8 {α : Type} : Nat → List Int → List Int → Int → Int → Int → List Int → (List Int → List Int → Int → Int → Int → List Int → Option α) → Option α := Classical.choose spec_l5Sub_J8.ex α
theorem spec_l5Sub_J8.eq : @spec_l5Sub_J8 = @spec_l5Sub_J8.b := funext fun α => congrFun (Classical.choose_spec spec_l5Sub_J8.ex) α
noncomputable def spec_l5Sub_L0r {α : Type} (N : Nat) (next : List Int → List Int → Int → Int → List Int → Option α) (k0 : List Int → Option α) (v349 : List Int) (v350 : List Int) (v351 : Int) (v352 : Int) (v353 : List Int) : Option α :=
  let x354 := ((v349.length : Nat) : Int)
  let x355 := decide (v352 < x354)
  bif x355 then
    bif (decide (v352 < (0 : Int))) then
      none
    else
      match v349[v352.toNat]? with
      | some x356 =>
        spec_l5At N v350 v352
          (fun x357 =>
            let x358 := IntKind.i64.wrap (x356 - x357)
            let x359 := IntKind.i64.wrap (x358 - v351)
            spec_l5Sub_J8 N v349 v350 (0 : Int) v352 x359 v353
              (fun x368 x369 x370 x371 x372 x373 =>
                let x374 := [x372]
                bif decide (x373.length + x374.length ≤ 8796093022208) then
                  let x375 := x373 ++ x374
                  let x376 := (IntKind.i64.wrap (x371 + (1 : Int)))
                  next x368 x369 x370 x376 x375
                else
                  none))
      | none => none
  else
    k0 v353
noncomputable def spec_l5Sub_L0.b {α : Type} (N n : Nat) (v349 : List Int) (v350 : List Int) (v351 : Int) (v352 : Int) (v353 : List Int) (k0 : List Int → Option α) : Option α :=
  Nat.rec (motive := fun _ => List Int → List Int → Int → Int → List Int → Option α) (fun _ _ _ _ _ => none) (fun _ next => spec_l5Sub_L0r N next k0) n v349 v350 v351 v352 v353
theorem spec_l5Sub_L0.ex : ∃ f : ((α : Type) → Nat → Nat → List Int → List Int → Int → Int → List Int → (List Int → Option α) → Option α), f = fun α => @spec_l5Sub_L0.b α := ⟨_, rfl⟩
noncomputable def spec_l5Sub_L0 {α : Type} : Nat → Nat → List Int → List Int → Int → Int → List Int → (List Int → Option α) → Option α := Classical.choose spec_l5Sub_L0.ex α
theorem spec_l5Sub_L0.eq : @spec_l5Sub_L0 = @spec_l5Sub_L0.b := funext fun α => congrFun (Classical.choose_spec spec_l5Sub_L0.ex) α
theorem spec_l5Sub_L0.zero {α : Type} (N : Nat) (v349 : List Int) (v350 : List Int) (v351 : Int) (v352 : Int) (v353 : List Int) (k0 : List Int → Option α) : spec_l5Sub_L0 N 0 v349 v350 v351 v352 v353 k0 = none := by rw [spec_l5Sub_L0.eq]; rfl
theorem spec_l5Sub_L0.succ {α : Type} (N n : Nat) (v349 : List Int) (v350 : List Int) (v351 : Int) (v352 : Int) (v353 : List Int) (k0 : List Int → Option α) : spec_l5Sub_L0 N (n + 1) v349 v350 v351 v352 v353 k0 = spec_l5Sub_L0r N (fun y0 y1 y2 y3 y4 => spec_l5Sub_L0 N n y0 y1 y2 y3 y4 k0) k0 v349 v350 v351 v352 v353 := by rw [spec_l5Sub_L0.eq]; rfl
/-- loop.example/pinfold/spec.l5Sub -/
noncomputable def spec_l5Sub.b {α : Type} (N : Nat) (a347 : List Int) (a348 : List Int) (k0 : List Int → Option α) : Option α :=
  spec_l5Sub_L0 N N a347 a348 (0 : Int) (0 : Int) []
    (fun x377 =>
      spec_l5Trim N x377
        (fun x378 =>
          k0 x378))
theorem spec_l5Sub.ex : ∃ f : ((α : Type) → Nat → List Int → List Int → (List Int → Option α) → Option α), f = fun α => @spec_l5Sub.b α := ⟨_, rfl⟩
noncomputable def spec_l5Sub {α : Type} : Nat → List Int → List Int → (List Int → Option α) → Option α := Classical.choose spec_l5Sub.ex α
theorem spec_l5Sub.eq : @spec_l5Sub = @spec_l5Sub.b := funext fun α => congrFun (Classical.choose_spec spec_l5Sub.ex) α

noncomputable def spec_l5Div_J17.b {α : Type} (N : Nat) (v318 : Int) (v319 : Int) (v320 : Int) (v321 : Int) (v322 : List Int) (v323 : List Int) (v324 : List Int) (v325 : List Int) (k0 : Int → Int → Int → Int → List Int → List Int → List Int → List Int → Option α) : Option α :=
  let x326 := (decide ((65536 : Int) ≤ v321))
  bif x326 then
    k0 v318 v319 v320 (65535 : Int) v322 v323 v324 v325
  else
    k0 v318 v319 v320 v321 v322 v323 v324 v325
theorem spec_l5Div_J17.ex : ∃ f : ((α : Type) → Nat → Int → Int → Int → Int → List Int → List Int → List Int → List Int → (Int → Int → Int → Int → List Int → List Int → List Int → List Int → Option α) → Option α), f = fun α => @spec_l5Div_J17.b α := ⟨_, rfl⟩
noncomputable def spec_l5Div_J17 {α : Type} : Nat → Int → Int → Int → Int → List Int → List Int → List Int → List Int → (Int → Int → Int → Int → List Int → List Int → List Int → List Int → Option α) → Option α := Classical.choose spec_l5Div_J17.ex α
theorem spec_l5Div_J17.eq : @spec_l5Div_J17 = @spec_l5Div_J17.b := funext fun α => congrFun (Classical.choose_spec spec_l5Div_J17.ex) α
noncomputable def spec_l5Div_L2r {α : Type} (N : Nat) (next : Int → Int → Int → Int → List Int → List Int → List Int → List Int → List Int → Option α) (k0 : Int → Int → Int → Int → List Int → List Int → List Int → List Int → List Int → Option α) (v336 : Int) (v337 : Int) (v338 : Int) (v339 : Int) (v340 : List Int) (v341 : List Int) (v342 : List Int) (v343 : List Int) (v344 : List Int) : Option α :=
  spec_l5Cmp N v344 v343
    (fun x345 =>
      let x346 := (decide ((0 : Int) < x345))
      bif x346 then
        spec_l5Sub N v344 v341
          (fun x379 =>
            let x380 := (IntKind.i64.wrap (v339 - (1 : Int)))
            next v336 v337 v338 x380 v340 v341 v342 v343 x379)
      else
        k0 v336 v337 v338 v339 v340 v341 v342 v343 v344)
noncomputable def spec_l5Div_L2.b {α : Type} (N n : Nat) (v336 : Int) (v337 : Int) (v338 : Int) (v339 : Int) (v340 : List Int) (v341 : List Int) (v342 : List Int) (v343 : List Int) (v344 : List Int) (k0 : Int → Int → Int → Int → List Int → List Int → List Int → List Int → List Int → Option α) : Option α :=
  Nat.rec (motive := fun _ => Int → Int → Int → Int → List Int → List Int → List Int → List Int → List Int → Option α) (fun _ _ _ _ _ _ _ _ _ => none) (fun _ next => spec_l5Div_L2r N next k0) n v336 v337 v338 v339 v340 v341 v342 v343 v344
theorem spec_l5Div_L2.ex : ∃ f : ((α : Type) → Nat → Nat → Int → Int → Int → Int → List Int → List Int → List Int → List Int → List Int → (Int → Int → Int → Int → List Int → List Int → List Int → List Int → List Int → Option α) → Option α), f = fun α => @spec_l5Div_L2.b α := ⟨_, rfl⟩
noncomputable def spec_l5Div_L2 {α : Type} : Nat → Nat → Int → Int → Int → Int → List Int → List Int → List Int → List Int → List Int → (Int → Int → Int → Int → List Int → List Int → List Int → List Int → List Int → Option α) → Option α := Classical.choose spec_l5Div_L2.ex α
theorem spec_l5Div_L2.eq : @spec_l5Div_L2 = @spec_l5Div_L2.b := funext fun α => congrFun (Classical.choose_spec spec_l5Div_L2.ex) α
theorem spec_l5Div_L2.zero {α : Type} (N : Nat) (v336 : Int) (v337 : Int) (v338 : Int) (v339 : Int) (v340 : List Int) (v341 : List Int) (v342 : List Int) (v343 : List Int) (v344 : List Int) (k0 : Int → Int → Int → Int → List Int → List Int → List Int → List Int → List Int → Option α) : spec_l5Div_L2 N 0 v336 v337 v338 v339 v340 v341 v342 v343 v344 k0 = none := by rw [spec_l5Div_L2.eq]; rfl
theorem spec_l5Div_L2.succ {α : Type} (N n : Nat) (v336 : Int) (v337 : Int) (v338 : Int) (v339 : Int) (v340 : List Int) (v341 : List Int) (v342 : List Int) (v343 : List Int) (v344 : List Int) (k0 : Int → Int → Int → Int → List Int → List Int → List Int → List Int → List Int → Option α) : spec_l5Div_L2 N (n + 1) v336 v337 v338 v339 v340 v341 v342 v343 v344 k0 = spec_l5Div_L2r N (fun y0 y1 y2 y3 y4 y5 y6 y7 y8 => spec_l5Div_L2 N n y0 y1 y2 y3 y4 y5 y6 y7 y8 k0) k0 v336 v337 v338 v339 v340 v341 v342 v343 v344 := by rw [spec_l5Div_L2.eq]; rfl
noncomputable def spec_l5Div_L0r {α : Type} (N : Nat) (next : Int → Int → Int → List Int → List Int → List Int → List Int → Option α) (k0 : Int → List Int → List Int → Option α) (v240 : Int) (v241 : Int) (v242 : Int) (v243 : List Int) (v244 : List Int) (v245 : List Int) (v246 : List Int) : Option α :=
  let x247 := (decide ((0 : Int) ≤ v242))
  bif x247 then
    spec_l5Shl N v246 (1 : Int)
      (fun x263 =>
        bif (decide (v242 < (0 : Int))) then
          none
        else
          bif decide (v242.toNat < v243.length) then
            match v243[v242.toNat]? with
            | some x264 =>
              let x265 := IntKind.u64.wrap x264
              spec_NatOf N x265
                (fun x266 =>
                  spec_l5Add N x263 x266
                    (fun x308 =>
                      spec_l5Trim N x308
                        (fun x309 =>
                          spec_l5At N x309 v241
                            (fun x310 =>
                              let x311 := (IntKind.i64.wrap (x310 * (65536 : Int)))
                              let x312 := (IntKind.i64.wrap (v241 - (1 : Int)))
                              spec_l5At N x309 x312
                                (fun x313 =>
                                  let x314 := IntKind.i64.wrap (x311 + x313)
                                  let x315 := (IntKind.i64.wrap (v241 - (1 : Int)))
                                  bif (decide (x315 < (0 : Int))) then
                                    none
                                  else
                                    bif decide (x315.toNat < v244.length) then
                                      match v244[x315.toNat]? with
                                      | some x316 =>
                                        bif (decide (x316 = (0 : Int))) then
                                          none
                                        else
                                          let x317 := IntKind.i64.wrap (Int.tdiv x314 x316)
                                          spec_l5Div_J17 N v240 v241 v242 x317 v243 v244 v245 x309
                                            (fun x327 x328 x329 x330 x331 x332 x333 x334 =>
                                              spec_l5Times N x332 x330
                                                (fun x335 =>
                                                  spec_l5Div_L2 N N x327 x328 x329 x330 x331 x332 x333 x334 x335
                                                    (fun x381 x382 x383 x384 x385 x386 x387 x388 x389 =>
                                                      bif (decide (x383 < (0 : Int))) then
                                                        none
                                                      else
                                                        bif decide (x383.toNat < x387.length) then
                                                          match x387[x383.toNat]? with
                                                          | some x390 =>
                                                            let x391 := x387.set x383.toNat x384
                                                            spec_l5Sub N x388 x389
                                                              (fun x392 =>
                                                                let x393 := (IntKind.i64.wrap (x383 - (1 : Int)))
                                                                next x381 x382 x393 x385 x386 x391 x392)
                                                          | none => none
                                                        else
                                                          none)))
                                      | none => none
                                    else
                                      none)))))
            | none => none
          else
            none)
  else
    k0 v240 v245 v246
noncomputable def spec_l5Div_L0.b {α : Type} (N n : Nat) (v240 : Int) (v241 : Int) (v242 : Int) (v243 : List Int) (v244 : List Int) (v245 : List Int) (v246 : List Int) (k0 : Int → List Int → List Int → Option α) : Option α :=
  Nat.rec (motive := fun _ => Int → Int → Int → List Int → List Int → List Int → List Int → Option α) (fun _ _ _ _ _ _ _ => none) (fun _ next => spec_l5Div_L0r N next k0) n v240 v241 v242 v243 v244 v245 v246
theorem spec_l5Div_L0.ex : ∃ f : ((α : Type) → Nat → Nat → Int → Int → Int → List Int → List Int → List Int → List Int → (Int → List Int → List Int → Option α) → Option α), f = fun α => @spec_l5Div_L0.b α := ⟨_, rfl⟩
noncomputable def spec_l5Div_L0 {α : Type} : Nat → Nat → Int → Int → Int → List Int → List Int → List Int → List Int → (Int → List Int → List Int → Option α) → Option α := Classical.choose spec_l5Div_L0.ex α
theorem spec_l5Div_L0.eq : @spec_l5Div_L0 = @spec_l5Div_L0.b := funext fun α => congrFun (Classical.choose_spec spec_l5Div_L0.ex) α
theorem spec_l5Div_L0.zero {α : Type} (N : Nat) (v240 : Int) (v241 : Int) (v242 : Int) (v243 : List Int) (v244 : List Int) (v245 : List Int) (v246 : List Int) (k0 : Int → List Int → List Int → Option α) : spec_l5Div_L0 N 0 v240 v241 v242 v243 v244 v245 v246 k0 = none := by rw [spec_l5Div_L0.eq]; rfl
theorem spec_l5Div_L0.succ {α : Type} (N n : Nat) (v240 : Int) (v241 : Int) (v242 : Int) (v243 : List Int) (v244 : List Int) (v245 : List Int) (v246 : List Int) (k0 : Int → List Int → List Int → Option α) : spec_l5Div_L0 N (n + 1) v240 v241 v242 v243 v244 v245 v246 k0 = spec_l5Div_L0r N (fun y0 y1 y2 y3 y4 y5 y6 => spec_l5Div_L0 N n y0 y1 y2 y3 y4 y5 y6 k0) k0 v240 v241 v242 v243 v244 v245 v246 := by rw [spec_l5Div_L0.eq]; rfl
/-- loop.example/pinfold/spec.l5Div -/
noncomputable def spec_l5Div.b {α : Type} (N : Nat) (a93 : List Int) (a94 : List Int) (k0 : List Int → List Int → Option α) : Option α :=
  spec_l5Cmp N a93 a94
    (fun x117 =>
      let x118 := (decide (x117 < (0 : Int)))
      bif x118 then
        spec_l5Trim N a93
          (fun x119 =>
            k0 [] x119)
      else
        let x120 := ((a94.length : Nat) : Int)
        let x121 := (decide (x120 = (1 : Int)))
        bif x121 then
          match a94[0]? with
          | some x122 =>
            spec_l5DivSmall N a93 x122
              (fun x146 x147 =>
                let x148 := IntKind.u64.wrap x146
                spec_NatOf N x148
                  (fun x159 =>
                    k0 x147 x159))
          | none => none
        else
          let x160 := ((a94.length : Nat) : Int)
          let x161 := (IntKind.i64.wrap (x160 - (1 : Int)))
          bif (decide (x161 < (0 : Int))) then
            none
          else
            match a94[x161.toNat]? with
            | some x162 =>
              let x163 := (IntKind.i64.wrap (x162 + (1 : Int)))
              bif (decide (x163 = (0 : Int))) then
                none
              else
                let x164 := (IntKind.i64.wrap (Int.tdiv (65536 : Int) x163))
                spec_l5Times N a93 x164
                  (fun x215 =>
                    spec_l5Times N a94 x164
                      (fun x216 =>
                        let x217 := ((x216.length : Nat) : Int)
                        let x218 := ((x215.length : Nat) : Int)
                        let x219 := IntKind.i64.wrap (x218 - x217)
                        let x220 := (IntKind.i64.wrap (x219 + (1 : Int)))
                        bif (decide ((0 : Int) ≤ x220)) then
                          bif decide (x220 ≤ x220) then
                            bif (decide (x220 ≤ ((8796093022208 : Nat) : Int))) then
                              let x221 := (List.replicate x220.toNat (0 : Int))
                              let x222 := ((x215.length : Nat) : Int)
                              let x223 := IntKind.i64.wrap (x222 - x217)
                              let x224 := (IntKind.i64.wrap (x223 + (1 : Int)))
                              spec_l5Top N x215 x224
                                (fun x237 =>
                                  let x238 := ((x215.length : Nat) : Int)
                                  let x239 := IntKind.i64.wrap (x238 - x217)
                                  spec_l5Div_L0 N N x164 x217 x239 x215 x216 x221 x237
                                    (fun x394 x395 x396 =>
                                      spec_l5DivSmall N x396 x394
                                        (fun _ x398 =>
                                          spec_l5Trim N x395
                                            (fun x399 =>
                                              k0 x399 x398))))
                            else
                              none
                          else
                            none
                        else
                          none))
            | none => none)
theorem spec_l5Div.ex : ∃ f : ((α : Type) → Nat → List Int → List Int → (List Int → List Int → Option α) → Option α), f = fun α => @spec_l5Div.b α := ⟨_, rfl⟩
noncomputable def spec_l5Div {α : Type} : Nat → List Int → List Int → (List Int → List Int → Option α) → Option α := Classical.choose spec_l5Div.ex α
theorem spec_l5Div.eq : @spec_l5Div = @spec_l5Div.b := funext fun α => congrFun (Classical.choose_spec spec_l5Div.ex) α

noncomputable def spec_l5Gcd_L0r {α : Type} (N : Nat) (next : List Int → List Int → Option α) (k0 : List Int → Option α) (v89 : List Int) (v90 : List Int) : Option α :=
  let x91 := ((v90.length : Nat) : Int)
  let x92 := (decide ((0 : Int) < x91))
  bif x92 then
    spec_l5Div N v89 v90
      (fun _ x401 =>
        next v90 x401)
  else
    k0 v89
noncomputable def spec_l5Gcd_L0.b {α : Type} (N n : Nat) (v89 : List Int) (v90 : List Int) (k0 : List Int → Option α) : Option α :=
  Nat.rec (motive := fun _ => List Int → List Int → Option α) (fun _ _ => none) (fun _ next => spec_l5Gcd_L0r N next k0) n v89 v90
theorem spec_l5Gcd_L0.ex : ∃ f : ((α : Type) → Nat → Nat → List Int → List Int → (List Int → Option α) → Option α), f = fun α => @spec_l5Gcd_L0.b α := ⟨_, rfl⟩
noncomputable def spec_l5Gcd_L0 {α : Type} : Nat → Nat → List Int → List Int → (List Int → Option α) → Option α := Classical.choose spec_l5Gcd_L0.ex α
theorem spec_l5Gcd_L0.eq : @spec_l5Gcd_L0 = @spec_l5Gcd_L0.b := funext fun α => congrFun (Classical.choose_spec spec_l5Gcd_L0.ex) α
theorem spec_l5Gcd_L0.zero {α : Type} (N : Nat) (v89 : List Int) (v90 : List Int) (k0 : List Int → Option α) : spec_l5Gcd_L0 N 0 v89 v90 k0 = none := by rw [spec_l5Gcd_L0.eq]; rfl
theorem spec_l5Gcd_L0.succ {α : Type} (N n : Nat) (v89 : List Int) (v90 : List Int) (k0 : List Int → Option α) : spec_l5Gcd_L0 N (n + 1) v89 v90 k0 = spec_l5Gcd_L0r N (fun y0 y1 => spec_l5Gcd_L0 N n y0 y1 k0) k0 v89 v90 := by rw [spec_l5Gcd_L0.eq]; rfl
/-- loop.example/pinfold/spec.l5Gcd -/
noncomputable def spec_l5Gcd.b {α : Type} (N : Nat) (a64 : List Int) (a65 : List Int) (k0 : List Int → Option α) : Option α :=
  spec_l5Trim N a64
    (fun x87 =>
      spec_l5Trim N a65
        (fun x88 =>
          spec_l5Gcd_L0 N N x87 x88
            (fun x402 =>
              k0 x402)))
theorem spec_l5Gcd.ex : ∃ f : ((α : Type) → Nat → List Int → List Int → (List Int → Option α) → Option α), f = fun α => @spec_l5Gcd.b α := ⟨_, rfl⟩
noncomputable def spec_l5Gcd {α : Type} : Nat → List Int → List Int → (List Int → Option α) → Option α := Classical.choose spec_l5Gcd.ex α
theorem spec_l5Gcd.eq : @spec_l5Gcd = @spec_l5Gcd.b := funext fun α => congrFun (Classical.choose_spec spec_l5Gcd.ex) α

/-- loop.example/pinfold/spec.l6One -/
noncomputable def spec_l6One.b {α : Type} (N : Nat) (a404 : List Int) (k0 : Bool → Option α) : Option α :=
  let x405 := ((a404.length : Nat) : Int)
  let x406 := (decide (x405 = (1 : Int)))
  bif x406 then
    match a404[0]? with
    | some x407 =>
      let x408 := (decide (x407 = (1 : Int)))
      k0 x408
    | none => none
  else
    k0 false
theorem spec_l6One.ex : ∃ f : ((α : Type) → Nat → List Int → (Bool → Option α) → Option α), f = fun α => @spec_l6One.b α := ⟨_, rfl⟩
noncomputable def spec_l6One {α : Type} : Nat → List Int → (Bool → Option α) → Option α := Classical.choose spec_l6One.ex α
theorem spec_l6One.eq : @spec_l6One = @spec_l6One.b := funext fun α => congrFun (Classical.choose_spec spec_l6One.ex) α

/-- loop.example/pinfold/spec.FracOk -/
noncomputable def spec_FracOk.b {α : Type} (N : Nat) (a35 : Bool × (List Int) × (List Int) × Unit) (k0 : Bool → Option α) : Option α :=
  spec_NatOk N a35.2.1
    (fun x56 =>
      let x57 := !x56
      bif x57 then
        k0 false
      else
        spec_NatOk N a35.2.2.1
          (fun x58 =>
            let x59 := !x58
            bif x59 then
              k0 false
            else
              let x60 := ((a35.2.2.1.length : Nat) : Int)
              let x61 := (decide (x60 = (0 : Int)))
              bif x61 then
                k0 false
              else
                let x62 := ((a35.2.1.length : Nat) : Int)
                let x63 := (decide (x62 = (0 : Int)))
                bif x63 then
                  bif a35.1 then
                    k0 false
                  else
                    spec_l5Gcd N a35.2.1 a35.2.2.1
                      (fun x403 =>
                        spec_l6One N x403
                          (fun x409 =>
                            k0 x409))
                else
                  spec_l5Gcd N a35.2.1 a35.2.2.1
                    (fun x410 =>
                      spec_l6One N x410
                        (fun x411 =>
                          k0 x411))))
theorem spec_FracOk.ex : ∃ f : ((α : Type) → Nat → (Bool × (List Int) × (List Int) × Unit) → (Bool → Option α) → Option α), f = fun α => @spec_FracOk.b α := ⟨_, rfl⟩
noncomputable def spec_FracOk {α : Type} : Nat → (Bool × (List Int) × (List Int) × Unit) → (Bool → Option α) → Option α := Classical.choose spec_FracOk.ex α
theorem spec_FracOk.eq : @spec_FracOk = @spec_FracOk.b := funext fun α => congrFun (Classical.choose_spec spec_FracOk.ex) α

/-- loop.example/pinfold/spec.l6Make -/
noncomputable def spec_l6Make.b {α : Type} (N : Nat) (a432 : Bool) (a433 : List Int) (a434 : List Int) (k0 : Bool → Bool → List Int → List Int → Option α) : Option α :=
  let x435 := ((a433.length : Nat) : Int)
  let x436 := (decide (x435 = (0 : Int)))
  bif x436 then
    let x437 := [(1 : Int)]
    k0 false true [] x437
  else
    spec_l5Gcd N a433 a434
      (fun x438 =>
        spec_l5Div N a433 x438
          (fun x439 _ =>
            spec_l5Div N a434 x438
              (fun x441 _ =>
                let x443 := ((x439.length : Nat) : Int)
                let x444 := (decide ((256 : Int) < x443))
                bif x444 then
                  k0 false false [] []
                else
                  let x445 := ((x441.length : Nat) : Int)
                  let x446 := (decide ((256 : Int) < x445))
                  bif x446 then
                    k0 false false [] []
                  else
                    k0 a432 true x439 x441)))
theorem spec_l6Make.ex : ∃ f : ((α : Type) → Nat → Bool → List Int → List Int → (Bool → Bool → List Int → List Int → Option α) → Option α), f = fun α => @spec_l6Make.b α := ⟨_, rfl⟩
noncomputable def spec_l6Make {α : Type} : Nat → Bool → List Int → List Int → (Bool → Bool → List Int → List Int → Option α) → Option α := Classical.choose spec_l6Make.ex α
theorem spec_l6Make.eq : @spec_l6Make = @spec_l6Make.b := funext fun α => congrFun (Classical.choose_spec spec_l6Make.ex) α

noncomputable def spec_FracFloor_J4.b {α : Type} (N : Nat) (v416 : Bool × (List Int) × (List Int) × Unit) (v417 : Bool) (v418 : List Int) (v419 : List Int) (v420 : List Int) (v421 : List Int) (k0 : (Bool × (List Int) × (List Int) × Unit) → Bool → List Int → List Int → List Int → Option α) : Option α :=
  bif v416.1 then
    let x422 := ((v419.length : Nat) : Int)
    let x423 := (decide ((0 : Int) < x422))
    bif x423 then
      let x424 := [(1 : Int)]
      spec_l5Add N v418 x424
        (fun x425 =>
          k0 v416 v417 x425 v420 v421)
    else
      k0 v416 v417 v418 v420 v421
  else
    k0 v416 v417 v418 v420 v421
theorem spec_FracFloor_J4.ex : ∃ f : ((α : Type) → Nat → (Bool × (List Int) × (List Int) × Unit) → Bool → List Int → List Int → List Int → List Int → ((Bool × (List Int) × (List Int) × Unit) → Bool → List Int → List Int → List Int → Option α) → Option α), f = fun α => @spec_FracFloor_J4.b α := ⟨_, rfl⟩
noncomputable def spec_FracFloor_J4 {α : Type} : Nat → (Bool × (List Int) × (List Int) × Unit) → Bool → List Int → List Int → List Int → List Int → ((Bool × (List Int) × (List Int) × Unit) → Bool → List Int → List Int → List Int → Option α) → Option α := Classical.choose spec_FracFloor_J4.ex α
theorem spec_FracFloor_J4.eq : @spec_FracFloor_J4 = @spec_FracFloor_J4.b := funext fun α => congrFun (Classical.choose_spec spec_FracFloor_J4.ex) α
/-- loop.example/pinfold/spec.FracFloor -/
noncomputable def spec_FracFloor.b {α : Type} (N : Nat) (a34 : Bool × (List Int) × (List Int) × Unit) (k0 : Bool → Bool → List Int → List Int → Option α) : Option α :=
  spec_FracOk N a34
    (fun x412 =>
      let x413 := !x412
      bif x413 then
        k0 false false [] []
      else
        spec_l5Div N a34.2.1 a34.2.2.1
          (fun x414 x415 =>
            spec_FracFloor_J4 N a34 false x414 x415 [] []
              (fun x426 _ x428 _ _ =>
                let x431 := [(1 : Int)]
                spec_l6Make N x426.1 x428 x431
                  (fun x447 x448 x449 x450 =>
                    k0 x447 x448 x449 x450))))
theorem spec_FracFloor.ex : ∃ f : ((α : Type) → Nat → (Bool × (List Int) × (List Int) × Unit) → (Bool → Bool → List Int → List Int → Option α) → Option α), f = fun α => @spec_FracFloor.b α := ⟨_, rfl⟩
noncomputable def spec_FracFloor {α : Type} : Nat → (Bool × (List Int) × (List Int) × Unit) → (Bool → Bool → List Int → List Int → Option α) → Option α := Classical.choose spec_FracFloor.ex α
theorem spec_FracFloor.eq : @spec_FracFloor = @spec_FracFloor.b := funext fun α => congrFun (Classical.choose_spec spec_FracFloor.ex) α

/-- loop.example/pinfold/impl.in -/
noncomputable def impl_in.b {α : Type} (N : Nat) (a486 : Int) (a487 : Int) (a488 : Int) (k0 : Bool → Option α) : Option α :=
  let x489 := decide (a487 ≤ a486)
  bif x489 then
    let x490 := decide (a486 ≤ a488)
    k0 x490
  else
    k0 false
theorem impl_in.ex : ∃ f : ((α : Type) → Nat → Int → Int → Int → (Bool → Option α) → Option α), f = fun α => @impl_in.b α := ⟨_, rfl⟩
noncomputable def impl_in {α : Type} : Nat → Int → Int → Int → (Bool → Option α) → Option α := Classical.choose impl_in.ex α
theorem impl_in.eq : @impl_in = @impl_in.b := funext fun α => congrFun (Classical.choose_spec impl_in.ex) α

/-- loop.example/pinfold/impl.NatOk$1 -/
noncomputable def impl_NatOk_1.b {α : Type} (N : Nat) (a485 : Int) (k0 : Bool → Option α) : Option α :=
  impl_in N a485 (0 : Int) (65535 : Int)
    (fun x491 =>
      let x492 := !x491
      k0 x492)
theorem impl_NatOk_1.ex : ∃ f : ((α : Type) → Nat → Int → (Bool → Option α) → Option α), f = fun α => @impl_NatOk_1.b α := ⟨_, rfl⟩
noncomputable def impl_NatOk_1 {α : Type} : Nat → Int → (Bool → Option α) → Option α := Classical.choose impl_NatOk_1.ex α
theorem impl_NatOk_1.eq : @impl_NatOk_1 = @impl_NatOk_1.b := funext fun α => congrFun (Classical.choose_spec impl_NatOk_1.ex) α

noncomputable def slices_IndexFunc_int_int__impl_NatOk_1_L0r {α : Type} (N : Nat) (next : List Int → Int → Int → Option α) (k0 : Int → Option α) (k1 : Option α) (v480 : List Int) (v481 : Int) (v482 : Int) : Option α :=
  let x483 := decide (v482 < v481)
  bif x483 then
    bif (decide (v482 < (0 : Int))) then
      none
    else
      match v480[v482.toNat]? with
      | some x484 =>
        impl_NatOk_1 N x484
          (fun x493 =>
            bif x493 then
              k0 v482
            else
              let x494 := (IntKind.i64.wrap (v482 + (1 : Int)))
              next v480 v481 x494)
      | none => none
  else
    k1
noncomputable def slices_IndexFunc_int_int__impl_NatOk_1_L0.b {α : Type} (N n : Nat) (v480 : List Int) (v481 : Int) (v482 : Int) (k0 : Int → Option α) (k1 : Option α) : Option α :=
  Nat.rec (motive := fun _ => List Int → Int → Int → Option α) (fun _ _ _ => none) (fun _ next => slices_IndexFunc_int_int__impl_NatOk_1_L0r N next k0 k1) n v480 v481 v482
theorem slices_IndexFunc_int_int__impl_NatOk_1_L0.ex : ∃ f : ((α : Type) → Nat → Nat → List Int → Int → Int → (Int → Option α) → (Option α) → Option α), f = fun α => @slices_IndexFunc_int_int__impl_NatOk_1_L0.b α := ⟨_, rfl⟩
noncomputable def slices_IndexFunc_int_int__impl_NatOk_1_L0 {α : Type} : Nat → Nat → List Int → Int → Int → (Int → Option α) → (Option α) → Option α := Classical.choose slices_IndexFunc_int_int__impl_NatOk_1_L0.ex α
theorem slices_IndexFunc_int_int__impl_NatOk_1_L0.eq : @slices_IndexFunc_int_int__impl_NatOk_1_L0 = @slices_IndexFunc_int_int__impl_NatOk_1_L0.b := funext fun α => congrFun (Classical.choose_spec slices_IndexFunc_int_int__impl_NatOk_1_L0.ex) α
theorem slices_IndexFunc_int_int__impl_NatOk_1_L0.zero {α : Type} (N : Nat) (v480 : List Int) (v481 : Int) (v482 : Int) (k0 : Int → Option α) (k1 : Option α) : slices_IndexFunc_int_int__impl_NatOk_1_L0 N 0 v480 v481 v482 k0 k1 = none := by rw [slices_IndexFunc_int_int__impl_NatOk_1_L0.eq]; rfl
theorem slices_IndexFunc_int_int__impl_NatOk_1_L0.succ {α : Type} (N n : Nat) (v480 : List Int) (v481 : Int) (v482 : Int) (k0 : Int → Option α) (k1 : Option α) : slices_IndexFunc_int_int__impl_NatOk_1_L0 N (n + 1) v480 v481 v482 k0 k1 = slices_IndexFunc_int_int__impl_NatOk_1_L0r N (fun y0 y1 y2 => slices_IndexFunc_int_int__impl_NatOk_1_L0 N n y0 y1 y2 k0 k1) k0 k1 v480 v481 v482 := by rw [slices_IndexFunc_int_int__impl_NatOk_1_L0.eq]; rfl
/-- slices.IndexFunc[[]int,int] -/
noncomputable def slices_IndexFunc_int_int__impl_NatOk_1.b {α : Type} (N : Nat) (a478 : List Int) (k0 : Int → Option α) : Option α :=
  let x479 := ((a478.length : Nat) : Int)
  slices_IndexFunc_int_int__impl_NatOk_1_L0 N N a478 x479 (0 : Int)
    (fun x495 =>
      k0 x495)
    (
      k0 (-1 : Int))
theorem slices_IndexFunc_int_int__impl_NatOk_1.ex : ∃ f : ((α : Type) → Nat → List Int → (Int → Option α) → Option α), f = fun α => @slices_IndexFunc_int_int__impl_NatOk_1.b α := ⟨_, rfl⟩
noncomputable def slices_IndexFunc_int_int__impl_NatOk_1 {α : Type} : Nat → List Int → (Int → Option α) → Option α := Classical.choose slices_IndexFunc_int_int__impl_NatOk_1.ex α
theorem slices_IndexFunc_int_int__impl_NatOk_1.eq : @slices_IndexFunc_int_int__impl_NatOk_1 = @slices_IndexFunc_int_int__impl_NatOk_1.b := funext fun α => congrFun (Classical.choose_spec slices_IndexFunc_int_int__impl_NatOk_1.ex) α

/-- slices.ContainsFunc[[]int,int] -/
noncomputable def slices_ContainsFunc_int_int__impl_NatOk_1.b {α : Type} (N : Nat) (a477 : List Int) (k0 : Bool → Option α) : Option α :=
  slices_IndexFunc_int_int__impl_NatOk_1 N a477
    (fun x496 =>
      let x497 := (decide ((0 : Int) ≤ x496))
      k0 x497)
theorem slices_ContainsFunc_int_int__impl_NatOk_1.ex : ∃ f : ((α : Type) → Nat → List Int → (Bool → Option α) → Option α), f = fun α => @slices_ContainsFunc_int_int__impl_NatOk_1.b α := ⟨_, rfl⟩
noncomputable def slices_ContainsFunc_int_int__impl_NatOk_1 {α : Type} : Nat → List Int → (Bool → Option α) → Option α := Classical.choose slices_ContainsFunc_int_int__impl_NatOk_1.ex α
theorem slices_ContainsFunc_int_int__impl_NatOk_1.eq : @slices_ContainsFunc_int_int__impl_NatOk_1 = @slices_ContainsFunc_int_int__impl_NatOk_1.b := funext fun α => congrFun (Classical.choose_spec slices_ContainsFunc_int_int__impl_NatOk_1.ex) α

/-- loop.example/pinfold/impl.NatOk -/
noncomputable def impl_NatOk.b {α : Type} (N : Nat) (a472 : List Int) (k0 : Bool → Option α) : Option α :=
  let x473 := ((a472.length : Nat) : Int)
  let x474 := (decide (x473 ≤ (256 : Int)))
  bif x474 then
    let x475 := ((a472.length : Nat) : Int)
    let x476 := (decide (x475 = (0 : Int)))
    bif x476 then
      slices_ContainsFunc_int_int__impl_NatOk_1 N a472
        (fun x498 =>
          let x499 := !x498
          k0 x499)
    else
      let x500 := ((a472.length : Nat) : Int)
      let x501 := (IntKind.i64.wrap (x500 - (1 : Int)))
      bif (decide (x501 < (0 : Int))) then
        none
      else
        match a472[x501.toNat]? with
        | some x502 =>
          let x503 := (!(decide (x502 = (0 : Int))))
          bif x503 then
            slices_ContainsFunc_int_int__impl_NatOk_1 N a472
              (fun x504 =>
                let x505 := !x504
                k0 x505)
          else
            k0 false
        | none => none
  else
    k0 false
theorem impl_NatOk.ex : ∃ f : ((α : Type) → Nat → List Int → (Bool → Option α) → Option α), f = fun α => @impl_NatOk.b α := ⟨_, rfl⟩
noncomputable def impl_NatOk {α : Type} : Nat → List Int → (Bool → Option α) → Option α := Classical.choose impl_NatOk.ex α
theorem impl_NatOk.eq : @impl_NatOk = @impl_NatOk.b := funext fun α => congrFun (Classical.choose_spec impl_NatOk.ex) α

/-- loop.example/pinfold/impl.nats$1 -/
noncomputable def impl_nats_1.b {α : Type} (N : Nat) (a471 : List Int) (k0 : Bool → Option α) : Option α :=
  impl_NatOk N a471
    (fun x506 =>
      let x507 := !x506
      k0 x507)
theorem impl_nats_1.ex : ∃ f : ((α : Type) → Nat → List Int → (Bool → Option α) → Option α), f = fun α => @impl_nats_1.b α := ⟨_, rfl⟩
noncomputable def impl_nats_1 {α : Type} : Nat → List Int → (Bool → Option α) → Option α := Classical.choose impl_nats_1.ex α
theorem impl_nats_1.eq : @impl_nats_1 = @impl_nats_1.b := funext fun α => congrFun (Classical.choose_spec impl_nats_1.ex) α

noncomputable def slices_IndexFunc_int_int__impl_nats_1_L0r {α : Type} (N : Nat) (next : List (List Int) → Int → Int → Option α) (k0 : Int → Option α) (k1 : Option α) (v466 : List (List Int)) (v467 : Int) (v468 : Int) : Option α :=
  let x469 := decide (v468 < v467)
  bif x469 then
    bif (decide (v468 < (0 : Int))) then
      none
    else
      match v466[v468.toNat]? with
      | some x470 =>
        impl_nats_1 N x470
          (fun x508 =>
            bif x508 then
              k0 v468
            else
              let x509 := (IntKind.i64.wrap (v468 + (1 : Int)))
              next v466 v467 x509)
      | none => none
  else
    k1
noncomputable def slices_IndexFunc_int_int__impl_nats_1_L0.b {α : Type} (N n : Nat) (v466 : List (List Int)) (v467 : Int) (v468 : Int) (k0 : Int → Option α) (k1 : Option α) : Option α :=
  Nat.rec (motive := fun _ => List (List Int) → Int → Int → Option α) (fun _ _ _ => none) (fun _ next => slices_IndexFunc_int_int__impl_nats_1_L0r N next k0 k1) n v466 v467 v468
theorem slices_IndexFunc_int_int__impl_nats_1_L0.ex : ∃ f : ((α : Type) → Nat → Nat → List (List Int) → Int → Int → (Int → Option α) → (Option α) → Option α), f = fun α => @slices_IndexFunc_int_int__impl_nats_1_L0.b α := ⟨_, rfl⟩
noncomputable def slices_IndexFunc_int_int__impl_nats_1_L0 {α : Type} : Nat → Nat → List (List Int) → Int → Int → (Int → Option α) → (Option α) → Option α := Classical.choose slices_IndexFunc_int_int__impl_nats_1_L0.ex α
theorem slices_IndexFunc_int_int__impl_nats_1_L0.eq : @slices_IndexFunc_int_int__impl_nats_1_L0 = @slices_IndexFunc_int_int__impl_nats_1_L0.b := funext fun α => congrFun (Classical.choose_spec slices_IndexFunc_int_int__impl_nats_1_L0.ex) α
theorem slices_IndexFunc_int_int__impl_nats_1_L0.zero {α : Type} (N : Nat) (v466 : List (List Int)) (v467 : Int) (v468 : Int) (k0 : Int → Option α) (k1 : Option α) : slices_IndexFunc_int_int__impl_nats_1_L0 N 0 v466 v467 v468 k0 k1 = none := by rw [slices_IndexFunc_int_int__impl_nats_1_L0.eq]; rfl
theorem slices_IndexFunc_int_int__impl_nats_1_L0.succ {α : Type} (N n : Nat) (v466 : List (List Int)) (v467 : Int) (v468 : Int) (k0 : Int → Option α) (k1 : Option α) : slices_IndexFunc_int_int__impl_nats_1_L0 N (n + 1) v466 v467 v468 k0 k1 = slices_IndexFunc_int_int__impl_nats_1_L0r N (fun y0 y1 y2 => slices_IndexFunc_int_int__impl_nats_1_L0 N n y0 y1 y2 k0 k1) k0 k1 v466 v467 v468 := by rw [slices_IndexFunc_int_int__impl_nats_1_L0.eq]; rfl
/-- slices.IndexFunc[[][]int,[]int] -/
noncomputable def slices_IndexFunc_int_int__impl_nats_1.b {α : Type} (N : Nat) (a464 : List (List Int)) (k0 : Int → Option α) : Option α :=
  let x465 := ((a464.length : Nat) : Int)
  slices_IndexFunc_int_int__impl_nats_1_L0 N N a464 x465 (0 : Int)
    (fun x510 =>
      k0 x510)
    (
      k0 (-1 : Int))
theorem slices_IndexFunc_int_int__impl_nats_1.ex : ∃ f : ((α : Type) → Nat → List (List Int) → (Int → Option α) → Option α), f = fun α => @slices_IndexFunc_int_int__impl_nats_1.b α := ⟨_, rfl⟩
noncomputable def slices_IndexFunc_int_int__impl_nats_1 {α : Type} : Nat → List (List Int) → (Int → Option α) → Option α := Classical.choose slices_IndexFunc_int_int__impl_nats_1.ex α
theorem slices_IndexFunc_int_int__impl_nats_1.eq : @slices_IndexFunc_int_int__impl_nats_1 = @slices_IndexFunc_int_int__impl_nats_1.b := funext fun α => congrFun (Classical.choose_spec slices_IndexFunc_int_int__impl_nats_1.ex) α

/-- slices.ContainsFunc[[][]int,[]int] -/
noncomputable def slices_ContainsFunc_int_int__impl_nats_1.b {α : Type} (N : Nat) (a463 : List (List Int)) (k0 : Bool → Option α) : Option α :=
  slices_IndexFunc_int_int__impl_nats_1 N a463
    (fun x511 =>
      let x512 := (decide ((0 : Int) ≤ x511))
      k0 x512)
theorem slices_ContainsFunc_int_int__impl_nats_1.ex : ∃ f : ((α : Type) → Nat → List (List Int) → (Bool → Option α) → Option α), f = fun α => @slices_ContainsFunc_int_int__impl_nats_1.b α := ⟨_, rfl⟩
noncomputable def slices_ContainsFunc_int_int__impl_nats_1 {α : Type} : Nat → List (List Int) → (Bool → Option α) → Option α := Classical.choose slices_ContainsFunc_int_int__impl_nats_1.ex α
theorem slices_ContainsFunc_int_int__impl_nats_1.eq : @slices_ContainsFunc_int_int__impl_nats_1 = @slices_ContainsFunc_int_int__impl_nats_1.b := funext fun α => congrFun (Classical.choose_spec slices_ContainsFunc_int_int__impl_nats_1.ex) α

/-- loop.example/pinfold/impl.nats -/
noncomputable def impl_nats.b {α : Type} (N : Nat) (a462 : List (List Int)) (k0 : Bool → Option α) : Option α :=
  slices_ContainsFunc_int_int__impl_nats_1 N a462
    (fun x513 =>
      let x514 := !x513
      k0 x514)
theorem impl_nats.ex : ∃ f : ((α : Type) → Nat → List (List Int) → (Bool → Option α) → Option α), f = fun α => @impl_nats.b α := ⟨_, rfl⟩
noncomputable def impl_nats {α : Type} : Nat → List (List Int) → (Bool → Option α) → Option α := Classical.choose impl_nats.ex α
theorem impl_nats.eq : @impl_nats = @impl_nats.b := funext fun α => congrFun (Classical.choose_spec impl_nats.ex) α

noncomputable def impl_natCmp_L0r {α : Type} (N : Nat) (next : List Int → List Int → Int → Option α) (k0 : Int → Option α) (k1 : Option α) (v609 : List Int) (v610 : List Int) (v611 : Int) : Option α :=
  let x612 := (decide ((0 : Int) ≤ v611))
  bif x612 then
    bif (decide (v611 < (0 : Int))) then
      none
    else
      match v609[v611.toNat]? with
      | some x613 =>
        bif (decide (v611 < (0 : Int))) then
          none
        else
          match v610[v611.toNat]? with
          | some x614 =>
            let x615 := !(decide (x613 = x614))
            bif x615 then
              bif (decide (v611 < (0 : Int))) then
                none
              else
                match v609[v611.toNat]? with
                | some x616 =>
                  bif (decide (v611 < (0 : Int))) then
                    none
                  else
                    match v610[v611.toNat]? with
                    | some x617 =>
                      let x618 := IntKind.i64.wrap (x616 - x617)
                      let x619 := (minI (1 : Int) x618)
                      let x620 := (maxI (-1 : Int) x619)
                      k0 x620
                    | none => none
                | none => none
            else
              let x621 := (IntKind.i64.wrap (v611 - (1 : Int)))
              next v609 v610 x621
          | none => none
      | none => none
  else
    k1
noncomputable def impl_natCmp_L0.b {α : Type} (N n : Nat) (v609 : List Int) (v610 : List Int) (v611 : Int) (k0 : Int → Option α) (k1 : Option α) : Option α :=
  Nat.rec (motive := fun _ => List Int → List Int → Int → Option α) (fun _ _ _ => none) (fun _ next => impl_natCmp_L0r N next k0 k1) n v609 v610 v611
theorem impl_natCmp_L0.ex : ∃ f : ((α : Type) → Nat → Nat → List Int → List Int → Int → (Int → Option α) → (Option α) → Option α), f = fun α => @impl_natCmp_L0.b α := ⟨_, rfl⟩
noncomputable def impl_natCmp_L0 {α : Type} : Nat → Nat → List Int → List Int → Int → (Int → Option α) → (Option α) → Option α := Classical.choose impl_natCmp_L0.ex α
theorem impl_natCmp_L0.eq : @impl_natCmp_L0 = @impl_natCmp_L0.b := funext fun α => congrFun (Classical.choose_spec impl_natCmp_L0.ex) α
theorem impl_natCmp_L0.zero {α : Type} (N : Nat) (v609 : List Int) (v610 : List Int) (v611 : Int) (k0 : Int → Option α) (k1 : Option α) : impl_natCmp_L0 N 0 v609 v610 v611 k0 k1 = none := by rw [impl_natCmp_L0.eq]; rfl
theorem impl_natCmp_L0.succ {α : Type} (N n : Nat) (v609 : List Int) (v610 : List Int) (v611 : Int) (k0 : Int → Option α) (k1 : Option α) : impl_natCmp_L0 N (n + 1) v609 v610 v611 k0 k1 = impl_natCmp_L0r N (fun y0 y1 y2 => impl_natCmp_L0 N n y0 y1 y2 k0 k1) k0 k1 v609 v610 v611 := by rw [impl_natCmp_L0.eq]; rfl
/-- loop.example/pinfold/impl.natCmp -/
noncomputable def impl_natCmp.b {α : Type} (N : Nat) (a597 : List Int) (a598 : List Int) (k0 : Int → Option α) : Option α :=
  let x599 := ((a597.length : Nat) : Int)
  let x600 := ((a598.length : Nat) : Int)
  let x601 := !(decide (x599 = x600))
  bif x601 then
    let x602 := ((a597.length : Nat) : Int)
    let x603 := ((a598.length : Nat) : Int)
    let x604 := IntKind.i64.wrap (x602 - x603)
    let x605 := (minI (1 : Int) x604)
    let x606 := (maxI (-1 : Int) x605)
    k0 x606
  else
    let x607 := ((a597.length : Nat) : Int)
    let x608 := (IntKind.i64.wrap (x607 - (1 : Int)))
    impl_natCmp_L0 N N a597 a598 x608
      (fun x622 =>
        k0 x622)
      (
        k0 (0 : Int))
theorem impl_natCmp.ex : ∃ f : ((α : Type) → Nat → List Int → List Int → (Int → Option α) → Option α), f = fun α => @impl_natCmp.b α := ⟨_, rfl⟩
noncomputable def impl_natCmp {α : Type} : Nat → List Int → List Int → (Int → Option α) → Option α := Classical.choose impl_natCmp.ex α
theorem impl_natCmp.eq : @impl_natCmp = @impl_natCmp.b := funext fun α => congrFun (Classical.choose_spec impl_natCmp.ex) α

noncomputable def impl_trim_L0r {α : Type} (N : Nat) (next : List Int → Option α) (k0 : List Int → Option α) (v650 : List Int) : Option α :=
  let x651 := ((v650.length : Nat) : Int)
  let x652 := (decide ((0 : Int) < x651))
  bif x652 then
    let x653 := ((v650.length : Nat) : Int)
    let x654 := (IntKind.i64.wrap (x653 - (1 : Int)))
    bif (decide (x654 < (0 : Int))) then
      none
    else
      match v650[x654.toNat]? with
      | some x655 =>
        let x656 := (decide (x655 = (0 : Int)))
        bif x656 then
          let x657 := ((v650.length : Nat) : Int)
          let x658 := (IntKind.i64.wrap (x657 - (1 : Int)))
          bif (decide ((0 : Int) ≤ x658)) then
            bif (decide (x658 ≤ ((v650.length : Nat) : Int))) then
              let x659 := v650.take x658.toNat
              next x659
            else
              none
          else
            none
        else
          k0 v650
      | none => none
  else
    k0 v650
noncomputable def impl_trim_L0.b {α : Type} (N n : Nat) (v650 : List Int) (k0 : List Int → Option α) : Option α :=
  Nat.rec (motive := fun _ => List Int → Option α) (fun _ => none) (fun _ next => impl_trim_L0r N next k0) n v650
theorem impl_trim_L0.ex : ∃ f : ((α : Type) → Nat → Nat → List Int → (List Int → Option α) → Option α), f = fun α => @impl_trim_L0.b α := ⟨_, rfl⟩
noncomputable def impl_trim_L0 {α : Type} : Nat → Nat → List Int → (List Int → Option α) → Option α := Classical.choose impl_trim_L0.ex α
theorem impl_trim_L0.eq : @impl_trim_L0 = @impl_trim_L0.b := funext fun α => congrFun (Classical.choose_spec impl_trim_L0.ex) α
theorem impl_trim_L0.zero {α : Type} (N : Nat) (v650 : List Int) (k0 : List Int → Option α) : impl_trim_L0 N 0 v650 k0 = none := by rw [impl_trim_L0.eq]; rfl
theorem impl_trim_L0.succ {α : Type} (N n : Nat) (v650 : List Int) (k0 : List Int → Option α) : impl_trim_L0 N (n + 1) v650 k0 = impl_trim_L0r N (fun y0 => impl_trim_L0 N n y0 k0) k0 v650 := by rw [impl_trim_L0.eq]; rfl
/-- loop.example/pinfold/impl.trim -/
noncomputable def impl_trim.b {α : Type} (N : Nat) (a649 : List Int) (k0 : List Int → Option α) : Option α :=
  impl_trim_L0 N N a649
    (fun x660 =>
      k0 x660)
theorem impl_trim.ex : ∃ f : ((α : Type) → Nat → List Int → (List Int → Option α) → Option α), f = fun α => @impl_trim.b α := ⟨_, rfl⟩
noncomputable def impl_trim {α : Type} : Nat → List Int → (List Int → Option α) → Option α := Classical.choose impl_trim.ex α
theorem impl_trim.eq : @impl_trim = @impl_trim.b := funext fun α => congrFun (Classical.choose_spec impl_trim.ex) α

noncomputable def math_bits_Len64_J1.b {α : Type} (N : Nat) (v670 : Int) (v671 : Int) (k0 : Int → Int → Option α) : Option α :=
  let x672 := (decide ((4294967296 : Int) ≤ v670))
  bif x672 then
    let x673 := (shrI .u64 v670 (32 : Int))
    k0 x673 (32 : Int)
  else
    k0 v670 v671
theorem math_bits_Len64_J1.ex : ∃ f : ((α : Type) → Nat → Int → Int → (Int → Int → Option α) → Option α), f = fun α => @math_bits_Len64_J1.b α := ⟨_, rfl⟩
noncomputable def math_bits_Len64_J1 {α : Type} : Nat → Int → Int → (Int → Int → Option α) → Option α := Classical.choose math_bits_Len64_J1.ex α
theorem math_bits_Len64_J1.eq : @math_bits_Len64_J1 = @math_bits_Len64_J1.b := funext fun α => congrFun (Classical.choose_spec math_bits_Len64_J1.ex) α
noncomputable def math_bits_Len64_J4.b {α : Type} (N : Nat) (v676 : Int) (v677 : Int) (k0 : Int → Int → Option α) : Option α :=
  let x678 := (decide ((65536 : Int) ≤ v676))
  bif x678 then
    let x679 := (shrI .u64 v676 (16 : Int))
    let x680 := (IntKind.i64.wrap (v677 + (16 : Int)))
    k0 x679 x680
  else
    k0 v676 v677
theorem math_bits_Len64_J4.ex : ∃ f : ((α : Type) → Nat → Int → Int → (Int → Int → Option α) → Option α), f = fun α => @math_bits_Len64_J4.b α := ⟨_, rfl⟩
noncomputable def math_bits_Len64_J4 {α : Type} : Nat → Int → Int → (Int → Int → Option α) → Option α := Classical.choose math_bits_Len64_J4.ex α
theorem math_bits_Len64_J4.eq : @math_bits_Len64_J4 = @math_bits_Len64_J4.b := funext fun α => congrFun (Classical.choose_spec math_bits_Len64_J4.ex) α
noncomputable def math_bits_Len64_J7.b {α : Type} (N : Nat) (v683 : Int) (v684 : Int) (k0 : Int → Int → Option α) : Option α :=
  let x685 := (decide ((256 : Int) ≤ v683))
  bif x685 then
    let x686 := (shrI .u64 v683 (8 : Int))
    let x687 := (IntKind.i64.wrap (v684 + (8 : Int)))
    k0 x686 x687
  else
    k0 v683 v684
theorem math_bits_Len64_J7.ex : ∃ f : ((α : Type) → Nat → Int → Int → (Int → Int → Option α) → Option α), f = fun α => @math_bits_Len64_J7.b α := ⟨_, rfl⟩
noncomputable def math_bits_Len64_J7 {α : Type} : Nat → Int → Int → (Int → Int → Option α) → Option α := Classical.choose math_bits_Len64_J7.ex α
theorem math_bits_Len64_J7.eq : @math_bits_Len64_J7 = @math_bits_Len64_J7.b := funext fun α => congrFun (Classical.choose_spec math_bits_Len64_J7.ex) α
/-- math/bits.Len64 -/
noncomputable def math_bits_Len64.b {α : Type} (N : Nat) (a669 : Int) (k0 : Int → Option α) : Option α :=
  math_bits_Len64_J1 N a669 (0 : Int)
    (fun x674 x675 =>
      math_bits_Len64_J4 N x674 x675
        (fun x681 x682 =>
          math_bits_Len64_J7 N x681 x682
            (fun x688 x689 =>
              let x690 := IntKind.u8.wrap x688
              bif (decide (x690 < (0 : Int))) then
                none
              else
                match ((⟨#[0, 1, 2, 2, 3, 3, 3, 3, 4, 4, 4, 4, 4, 4, 4, 4, 5, 5, 5, 5, 5, 5, 5, 5, 5, 5, 5, 5, 5, 5, 5, 5, 6, 6, 6, 6, 6, 6, 6, 6, 6, 6, 6, 6, 6, 6, 6, 6, 6, 6, 6, 6, 6, 6, 6, 6, 6, 6, 6, 6, 6, 6, 6, 6, 7, 7, 7, 7, 7, 7, 7, 7, 7, 7, 7, 7, 7, 7, 7, 7, 7, 7, 7, 7, 7, 7, 7, 7, 7, 7, 7, 7, 7, 7, 7, 7, 7, 7, 7, 7, 7, 7, 7, 7, 7, 7, 7, 7, 7, 7, 7, 7, 7, 7, 7, 7, 7, 7, 7, 7, 7, 7, 7, 7, 7, 7, 7, 7, 8, 8, 8, 8, 8, 8, 8, 8, 8, 8, 8, 8, 8, 8, 8, 8, 8, 8, 8, 8, 8, 8, 8, 8, 8, 8, 8, 8, 8, 8, 8, 8, 8, 8, 8, 8, 8, 8, 8, 8, 8, 8, 8, 8, 8, 8, 8, 8, 8, 8, 8, 8, 8, 8, 8, 8, 8, 8, 8, 8, 8, 8, 8, 8, 8, 8, 8, 8, 8, 8, 8, 8, 8, 8, 8, 8, 8, 8, 8, 8, 8, 8, 8, 8, 8, 8, 8, 8, 8, 8, 8, 8, 8, 8, 8, 8, 8, 8, 8, 8, 8, 8, 8, 8, 8, 8, 8, 8, 8, 8, 8, 8, 8, 8, 8, 8, 8, 8, 8, 8, 8, 8, 8, 8, 8, 8, 8, 8]⟩ : ByteArray)[x690.toNat]? : Option UInt8) with
                | some x691 =>
                  let x692 := ((x691.toNat : Nat) : Int)
                  let x693 := IntKind.i64.wrap x692
                  let x694 := IntKind.i64.wrap (x689 + x693)
                  k0 x694
                | none => none)))
theorem math_bits_Len64.ex : ∃ f : ((α : Type) → Nat → Int → (Int → Option α) → Option α), f = fun α => @math_bits_Len64.b α := ⟨_, rfl⟩
noncomputable def math_bits_Len64 {α : Type} : Nat → Int → (Int → Option α) → Option α := Classical.choose math_bits_Len64.ex α
theorem math_bits_Len64.eq : @math_bits_Len64 = @math_bits_Len64.b := funext fun α => congrFun (Classical.choose_spec math_bits_Len64.ex) α

/-- math/bits.Len -/
noncomputable def math_bits_Len.b {α : Type} (N : Nat) (a668 : Int) (k0 : Int → Option α) : Option α :=
  math_bits_Len64 N a668
    (fun x695 =>
      k0 x695)
theorem math_bits_Len.ex : ∃ f : ((α : Type) → Nat → Int → (Int → Option α) → Option α), f = fun α => @math_bits_Len.b α := ⟨_, rfl⟩
noncomputable def math_bits_Len {α : Type} : Nat → Int → (Int → Option α) → Option α := Classical.choose math_bits_Len.ex α
theorem math_bits_Len.eq : @math_bits_Len = @math_bits_Len.b := funext fun α => congrFun (Classical.choose_spec math_bits_Len.ex) α

/-- slices.Clone[[]int,int] -/
noncomputable def slices_Clone_int_int {α : Type} (N : Nat) (a1 : List Int) (k0 : List Int → Option α) : Option α :=
  bif decide (([] : List Int).length + a1.length ≤ 8796093022208) then k0 a1 else none

noncomputable def impl_natShift_J10.b {α : Type} (N : Nat) (v774 : List Int) (v775 : Int) (v776 : Int) (v777 : Int) (v778 : Int) (v779 : Int) (v780 : List Int) (k0 : List Int → Int → Int → Int → Int → List Int → Option α) : Option α :=
  let x781 := IntKind.i64.wrap (v775 + v777)
  let x782 := (IntKind.i64.wrap (x781 + (1 : Int)))
  let x783 := ((v774.length : Nat) : Int)
  let x784 := decide (x782 < x783)
  bif x784 then
    bif (decide (v777 < (0 : Int))) then
      none
    else
      bif decide (v777.toNat < v780.length) then
        match v780[v777.toNat]? with
        | some x785 =>
          let x786 := IntKind.i64.wrap (v775 + v777)
          let x787 := (IntKind.i64.wrap (x786 + (1 : Int)))
          bif (decide (x787 < (0 : Int))) then
            none
          else
            match v774[x787.toNat]? with
            | some x788 =>
              let x789 := (IntKind.i64.wrap ((16 : Int) - v776))
              bif (decide (x789 < (0 : Int))) then
                none
              else
                let x790 := shlI .i64 x788 x789
                let x791 := (bitI .and .i64 x790 (65535 : Int))
                let x792 := bitI .or .i64 x785 x791
                bif (decide (v777 < (0 : Int))) then
                  none
                else
                  bif decide (v777.toNat < v780.length) then
                    match v780[v777.toNat]? with
                    | some x793 =>
                      let x794 := v780.set v777.toNat x792
                      k0 v774 v775 v776 v778 v779 x794
                    | none => none
                  else
                    none
            | none => none
        | none => none
      else
        none
  else
    k0 v774 v775 v776 v778 v779 v780
theorem impl_natShift_J10.ex : ∃ f : ((α : Type) → Nat → List Int → Int → Int → Int → Int → Int → List Int → (List Int → Int → Int → Int → Int → List Int → Option α) → Option α), f = fun α => @impl_natShift_J10.b α := ⟨_, rfl⟩
noncomputable def impl_natShift_J10 {α : Type} : Nat → List Int → Int → Int → Int → Int → Int → List Int → (List Int → Int → Int → Int → Int → List Int → Option α) → Option α := Classical.choose impl_natShift_J10.ex α
theorem impl_natShift_J10.eq : @impl_natShift_J10 = @impl_natShift_J10.b := funext fun α => congrFun (Classical.choose_spec impl_natShift_J10.ex) α
noncomputable def impl_natShift_L0r {α : Type} (N : Nat) (next : List Int → Int → Int → Int → Int → List Int → Option α) (k0 : List Int → Option α) (v763 : List Int) (v764 : Int) (v765 : Int) (v766 : Int) (v767 : Int) (v768 : List Int) : Option α :=
  let x769 := decide (v767 < v766)
  bif x769 then
    bif (decide (v767 < (0 : Int))) then
      none
    else
      bif decide (v767.toNat < v768.length) then
        match v768[v767.toNat]? with
        | some x770 =>
          bif (decide (v765 < (0 : Int))) then
            none
          else
            let x771 := shrI .i64 x770 v765
            bif (decide (v767 < (0 : Int))) then
              none
            else
              bif decide (v767.toNat < v768.length) then
                match v768[v767.toNat]? with
                | some x772 =>
                  let x773 := v768.set v767.toNat x771
                  impl_natShift_J10 N v763 v764 v765 v767 v766 v767 x773
                    (fun x795 x796 x797 x798 x799 x800 =>
                      let x801 := (IntKind.i64.wrap (x799 + (1 : Int)))
                      next x795 x796 x797 x798 x801 x800)
                | none => none
              else
                none
        | none => none
      else
        none
  else
    k0 v768
noncomputable def impl_natShift_L0.b {α : Type} (N n : Nat) (v763 : List Int) (v764 : Int) (v765 : Int) (v766 : Int) (v767 : Int) (v768 : List Int) (k0 : List Int → Option α) : Option α :=
  Nat.rec (motive := fun _ => List Int → Int → Int → Int → Int → List Int → Option α) (fun _ _ _ _ _ _ => none) (fun _ next => impl_natShift_L0r N next k0) n v763 v764 v765 v766 v767 v768
theorem impl_natShift_L0.ex : ∃ f : ((α : Type) → Nat → Nat → List Int → Int → Int → Int → Int → List Int → (List Int → Option α) → Option α), f = fun α => @impl_natShift_L0.b α := ⟨_, rfl⟩
noncomputable def impl_natShift_L0 {α : Type} : Nat → Nat → List Int → Int → Int → Int → Int → List Int → (List Int → Option α) → Option α := Classical.choose impl_natShift_L0.ex α
theorem impl_natShift_L0.eq : @impl_natShift_L0 = @impl_natShift_L0.b := funext fun α => congrFun (Classical.choose_spec impl_natShift_L0.ex) α
theorem impl_natShift_L0.zero {α : Type} (N : Nat) (v763 : List Int) (v764 : Int) (v765 : Int) (v766 : Int) (v767 : Int) (v768 : List Int) (k0 : List Int → Option α) : impl_natShift_L0 N 0 v763 v764 v765 v766 v767 v768 k0 = none := by rw [impl_natShift_L0.eq]; rfl
theorem impl_natShift_L0.succ {α : Type} (N n : Nat) (v763 : List Int) (v764 : Int) (v765 : Int) (v766 : Int) (v767 : Int) (v768 : List Int) (k0 : List Int → Option α) : impl_natShift_L0 N (n + 1) v763 v764 v765 v766 v767 v768 k0 = impl_natShift_L0r N (fun y0 y1 y2 y3 y4 y5 => impl_natShift_L0 N n y0 y1 y2 y3 y4 y5 k0) k0 v763 v764 v765 v766 v767 v768 := by rw [impl_natShift_L0.eq]; rfl
noncomputable def impl_natShift_L2r {α : Type} (N : Nat) (next : Int → List Int → Int → Int → List Int → Option α) (k0 : List Int → Option α) (v810 : Int) (v811 : List Int) (v812 : Int) (v813 : Int) (v814 : List Int) : Option α :=
  let x815 := decide (v813 < v812)
  bif x815 then
    bif (decide (v813 < (0 : Int))) then
      none
    else
      match v811[v813.toNat]? with
      | some x816 =>
        let x817 := (Int.tmod v810 (16 : Int))
        bif (decide (x817 < (0 : Int))) then
          none
        else
          let x818 := shlI .i64 x816 x817
          let x819 := (IntKind.i64.wrap (Int.tdiv v810 (16 : Int)))
          let x820 := IntKind.i64.wrap (x819 + v813)
          bif (decide (x820 < (0 : Int))) then
            none
          else
            bif decide (x820.toNat < v814.length) then
              match v814[x820.toNat]? with
              | some x821 =>
                let x822 := (bitI .and .i64 x818 (65535 : Int))
                let x823 := bitI .or .i64 x821 x822
                bif (decide (x820 < (0 : Int))) then
                  none
                else
                  bif decide (x820.toNat < v814.length) then
                    match v814[x820.toNat]? with
                    | some x824 =>
                      let x825 := v814.set x820.toNat x823
                      let x826 := (IntKind.i64.wrap (Int.tdiv v810 (16 : Int)))
                      let x827 := IntKind.i64.wrap (x826 + v813)
                      let x828 := (IntKind.i64.wrap (x827 + (1 : Int)))
                      let x829 := (shrI .i64 x818 (16 : Int))
                      bif (decide (x828 < (0 : Int))) then
                        none
                      else
                        bif decide (x828.toNat < x825.length) then
                          match x825[x828.toNat]? with
                          | some x830 =>
                            let x831 := x825.set x828.toNat x829
                            let x832 := (IntKind.i64.wrap (v813 + (1 : Int)))
                            next v810 v811 v812 x832 x831
                          | none => none
                        else
                          none
                    | none => none
                  else
                    none
              | none => none
            else
              none
      | none => none
  else
    k0 v814
noncomputable def impl_natShift_L2.b {α : Type} (N n : Nat) (v810 : Int) (v811 : List Int) (v812 : Int) (v813 : Int) (v814 : List Int) (k0 : List Int → Option α) : Option α :=
  Nat.rec (motive := fun _ => Int → List Int → Int → Int → List Int → Option α) (fun _ _ _ _ _ => none) (fun _ next => impl_natShift_L2r N next k0) n v810 v811 v812 v813 v814
theorem impl_natShift_L2.ex : ∃ f : ((α : Type) → Nat → Nat → Int → List Int → Int → Int → List Int → (List Int → Option α) → Option α), f = fun α => @impl_natShift_L2.b α := ⟨_, rfl⟩
noncomputable def impl_natShift_L2 {α : Type} : Nat → Nat → Int → List Int → Int → Int → List Int → (List Int → Option α) → Option α := Classical.choose impl_natShift_L2.ex α
theorem impl_natShift_L2.eq : @impl_natShift_L2 = @impl_natShift_L2.b := funext fun α => congrFun (Classical.choose_spec impl_natShift_L2.ex) α
theorem impl_natShift_L2.zero {α : Type} (N : Nat) (v810 : Int) (v811 : List Int) (v812 : Int) (v813 : Int) (v814 : List Int) (k0 : List Int → Option α) : impl_natShift_L2 N 0 v810 v811 v812 v813 v814 k0 = none := by rw [impl_natShift_L2.eq]; rfl
theorem impl_natShift_L2.succ {α : Type} (N n : Nat) (v810 : Int) (v811 : List Int) (v812 : Int) (v813 : Int) (v814 : List Int) (k0 : List Int → Option α) : impl_natShift_L2 N (n + 1) v810 v811 v812 v813 v814 k0 = impl_natShift_L2r N (fun y0 y1 y2 y3 y4 => impl_natShift_L2 N n y0 y1 y2 y3 y4 k0) k0 v810 v811 v812 v813 v814 := by rw [impl_natShift_L2.eq]; rfl
/-- loop.example/pinfold/impl.natShift -/
noncomputable def impl_natShift.b {α : Type} (N : Nat) (a751 : List Int) (a752 : Int) (k0 : List Int → Option α) : Option α :=
  let x753 := (decide (a752 < (0 : Int)))
  bif x753 then
    let x754 := IntKind.i64.wrap (0 - a752)
    let x755 := (IntKind.i64.wrap (Int.tdiv x754 (16 : Int)))
    let x756 := IntKind.i64.wrap (0 - a752)
    let x757 := (Int.tmod x756 (16 : Int))
    let x758 := ((a751.length : Nat) : Int)
    let x759 := decide (x758 ≤ x755)
    bif x759 then
      k0 []
    else
      bif (decide ((0 : Int) ≤ x755)) then
        bif (decide (x755 ≤ ((a751.length : Nat) : Int))) then
          let x760 := a751.drop x755.toNat
          slices_Clone_int_int N x760
            (fun x761 =>
              let x762 := ((x761.length : Nat) : Int)
              impl_natShift_L0 N N a751 x755 x757 x762 (0 : Int) x761
                (fun x802 =>
                  impl_trim N x802
                    (fun x803 =>
                      k0 x803)))
        else
          none
      else
        none
  else
    let x804 := (IntKind.i64.wrap (Int.tdiv a752 (16 : Int)))
    let x805 := ((a751.length : Nat) : Int)
    let x806 := IntKind.i64.wrap (x804 + x805)
    let x807 := (IntKind.i64.wrap (x806 + (1 : Int)))
    bif (decide ((0 : Int) ≤ x807)) then
      bif decide (x807 ≤ x807) then
        bif (decide (x807 ≤ ((8796093022208 : Nat) : Int))) then
          let x808 := (List.replicate x807.toNat (0 : Int))
          let x809 := ((a751.length : Nat) : Int)
          impl_natShift_L2 N N a752 a751 x809 (0 : Int) x808
            (fun x833 =>
              impl_trim N x833
                (fun x834 =>
                  k0 x834))
        else
          none
      else
        none
    else
      none
theorem impl_natShift.ex : ∃ f : ((α : Type) → Nat → List Int → Int → (List Int → Option α) → Option α), f = fun α => @impl_natShift.b α := ⟨_, rfl⟩
noncomputable def impl_natShift {α : Type} : Nat → List Int → Int → (List Int → Option α) → Option α := Classical.choose impl_natShift.ex α
theorem impl_natShift.eq : @impl_natShift = @impl_natShift.b := funext fun α => congrFun (Classical.choose_spec impl_natShift.ex) α

noncomputable def impl_natDiv_L0r {α : Type} (N : Nat) (next : List Int → List Int → Int → Int → List Int → Option α) (k0 : Int → List Int → Option α) (v631 : List Int) (v632 : List Int) (v633 : Int) (v634 : Int) (v635 : List Int) : Option α :=
  let x636 := (decide ((0 : Int) ≤ v634))
  bif x636 then
    let x637 := (shlI .i64 v633 (16 : Int))
    bif (decide (v634 < (0 : Int))) then
      none
    else
      match v631[v634.toNat]? with
      | some x638 =>
        let x639 := bitI .or .i64 x637 x638
        match v632[0]? with
        | some x640 =>
          bif (decide (x640 = (0 : Int))) then
            none
          else
            let x641 := IntKind.i64.wrap (Int.tdiv x639 x640)
            match v632[0]? with
            | some x642 =>
              bif (decide (x642 = (0 : Int))) then
                none
              else
                let x643 := Int.tmod x639 x642
                bif (decide (v634 < (0 : Int))) then
                  none
                else
                  bif decide (v634.toNat < v635.length) then
                    match v635[v634.toNat]? with
                    | some x644 =>
                      let x645 := v635.set v634.toNat x641
                      let x646 := (IntKind.i64.wrap (v634 - (1 : Int)))
                      next v631 v632 x643 x646 x645
                    | none => none
                  else
                    none
            | none => none
        | none => none
      | none => none
  else
    k0 v633 v635
noncomputable def impl_natDiv_L0.b {α : Type} (N n : Nat) (v631 : List Int) (v632 : List Int) (v633 : Int) (v634 : Int) (v635 : List Int) (k0 : Int → List Int → Option α) : Option α :=
  Nat.rec (motive := fun _ => List Int → List Int → Int → Int → List Int → Option α) (fun _ _ _ _ _ => none) (fun _ next => impl_natDiv_L0r N next k0) n v631 v632 v633 v634 v635
theorem impl_natDiv_L0.ex : ∃ f : ((α : Type) → Nat → Nat → List Int → List Int → Int → Int → List Int → (Int → List Int → Option α) → Option α), f = fun α => @impl_natDiv_L0.b α := ⟨_, rfl⟩
noncomputable def impl_natDiv_L0 {α : Type} : Nat → Nat → List Int → List Int → Int → Int → List Int → (Int → List Int → Option α) → Option α := Classical.choose impl_natDiv_L0.ex α
theorem impl_natDiv_L0.eq : @impl_natDiv_L0 = @impl_natDiv_L0.b := funext fun α => congrFun (Classical.choose_spec impl_natDiv_L0.ex) α
theorem impl_natDiv_L0.zero {α : Type} (N : Nat) (v631 : List Int) (v632 : List Int) (v633 : Int) (v634 : Int) (v635 : List Int) (k0 : Int → List Int → Option α) : impl_natDiv_L0 N 0 v631 v632 v633 v634 v635 k0 = none := by rw [impl_natDiv_L0.eq]; rfl
theorem impl_natDiv_L0.succ {α : Type} (N n : Nat) (v631 : List Int) (v632 : List Int) (v633 : Int) (v634 : Int) (v635 : List Int) (k0 : Int → List Int → Option α) : impl_natDiv_L0 N (n + 1) v631 v632 v633 v634 v635 k0 = impl_natDiv_L0r N (fun y0 y1 y2 y3 y4 => impl_natDiv_L0 N n y0 y1 y2 y3 y4 k0) k0 v631 v632 v633 v634 v635 := by rw [impl_natDiv_L0.eq]; rfl
noncomputable def impl_natDiv_L2r {α : Type} (N : Nat) (next : List Int → Int → List Int → Int → List Int → Option α) (k0 : Int → List Int → Int → List Int → Option α) (v841 : List Int) (v842 : Int) (v843 : List Int) (v844 : Int) (v845 : List Int) : Option α :=
  let x846 := ((v845.length : Nat) : Int)
  let x847 := ((v841.length : Nat) : Int)
  let x848 := (IntKind.i64.wrap (x847 + (1 : Int)))
  let x849 := decide (x846 < x848)
  bif x849 then
    let x850 := [(0 : Int)]
    bif decide (v845.length + x850.length ≤ 8796093022208) then
      let x851 := v845 ++ x850
      next v841 v842 v843 v844 x851
    else
      none
  else
    k0 v842 v843 v844 v845
noncomputable def impl_natDiv_L2.b {α : Type} (N n : Nat) (v841 : List Int) (v842 : Int) (v843 : List Int) (v844 : Int) (v845 : List Int) (k0 : Int → List Int → Int → List Int → Option α) : Option α :=
  Nat.rec (motive := fun _ => List Int → Int → List Int → Int → List Int → Option α) (fun _ _ _ _ _ => none) (fun _ next => impl_natDiv_L2r N next k0) n v841 v842 v843 v844 v845
theorem impl_natDiv_L2.ex : ∃ f : ((α : Type) → Nat → Nat → List Int → Int → List Int → Int → List Int → (Int → List Int → Int → List Int → Option α) → Option α), f = fun α => @impl_natDiv_L2.b α := ⟨_, rfl⟩
noncomputable def impl_natDiv_L2 {α : Type} : Nat → Nat → List Int → Int → List Int → Int → List Int → (Int → List Int → Int → List Int → Option α) → Option α := Classical.choose impl_natDiv_L2.ex α
theorem impl_natDiv_L2.eq : @impl_natDiv_L2 = @impl_natDiv_L2.b := funext fun α => congrFun (Classical.choose_spec impl_natDiv_L2.ex) α
theorem impl_natDiv_L2.zero {α : Type} (N : Nat) (v841 : List Int) (v842 : Int) (v843 : List Int) (v844 : Int) (v845 : List Int) (k0 : Int → List Int → Int → List Int → Option α) : impl_natDiv_L2 N 0 v841 v842 v843 v844 v845 k0 = none := by rw [impl_natDiv_L2.eq]; rfl
theorem impl_natDiv_L2.succ {α : Type} (N n : Nat) (v841 : List Int) (v842 : Int) (v843 : List Int) (v844 : Int) (v845 : List Int) (k0 : Int → List Int → Int → List Int → Option α) : impl_natDiv_L2 N (n + 1) v841 v842 v843 v844 v845 k0 = impl_natDiv_L2r N (fun y0 y1 y2 y3 y4 => impl_natDiv_L2 N n y0 y1 y2 y3 y4 k0) k0 v841 v842 v843 v844 v845 := by rw [impl_natDiv_L2.eq]; rfl
noncomputable def impl_natDiv_L6r {α : Type} (N : Nat) (next : Int → List Int → Int → Int → Int → Int → List Int → List Int → Option α) (k0 : Int → List Int → Int → Int → Int → List Int → List Int → Option α) (v882 : Int) (v883 : List Int) (v884 : Int) (v885 : Int) (v886 : Int) (v887 : Int) (v888 : List Int) (v889 : List Int) : Option α :=
  let x890 := (decide ((65536 : Int) ≤ v886))
  bif x890 then
    let x891 := (IntKind.i64.wrap (v886 - (1 : Int)))
    let x892 := (IntKind.i64.wrap (v884 - (1 : Int)))
    bif (decide (x892 < (0 : Int))) then
      none
    else
      match v883[x892.toNat]? with
      | some x893 =>
        let x894 := IntKind.i64.wrap (v887 + x893)
        let x895 := (decide ((65536 : Int) ≤ x894))
        bif x895 then
          k0 v882 v883 v884 v885 x891 v888 v889
        else
          next v882 v883 v884 v885 x891 x894 v888 v889
      | none => none
  else
    let x896 := (IntKind.i64.wrap (v884 - (2 : Int)))
    bif (decide (x896 < (0 : Int))) then
      none
    else
      match v883[x896.toNat]? with
      | some x897 =>
        let x898 := IntKind.i64.wrap (v886 * x897)
        let x899 := (shlI .i64 v887 (16 : Int))
        let x900 := IntKind.i64.wrap (v885 + v884)
        let x901 := (IntKind.i64.wrap (x900 - (2 : Int)))
        bif (decide (x901 < (0 : Int))) then
          none
        else
          bif decide (x901.toNat < v888.length) then
            match v888[x901.toNat]? with
            | some x902 =>
              let x903 := bitI .or .i64 x899 x902
              let x904 := decide (x903 < x898)
              bif x904 then
                let x905 := (IntKind.i64.wrap (v886 - (1 : Int)))
                let x906 := (IntKind.i64.wrap (v884 - (1 : Int)))
                bif (decide (x906 < (0 : Int))) then
                  none
                else
                  match v883[x906.toNat]? with
                  | some x907 =>
                    let x908 := IntKind.i64.wrap (v887 + x907)
                    let x909 := (decide ((65536 : Int) ≤ x908))
                    bif x909 then
                      k0 v882 v883 v884 v885 x905 v888 v889
                    else
                      next v882 v883 v884 v885 x905 x908 v888 v889
                  | none => none
              else
                k0 v882 v883 v884 v885 v886 v888 v889
            | none => none
          else
            none
      | none => none
noncomputable def impl_natDiv_L6.b {α : Type} (N n : Nat) (v882 : Int) (v883 : List Int) (v884 : Int) (v885 : Int) (v886 : Int) (v887 : Int) (v888 : List Int) (v889 : List Int) (k0 : Int → List Int → Int → Int → Int → List Int → List Int → Option α) : Option α :=
  Nat.rec (motive := fun _ => Int → List Int → Int → Int → Int → Int → List Int → List Int → Option α) (fun _ _ _ _ _ _ _ _ => none) (fun _ next => impl_natDiv_L6r N next k0) n v882 v883 v884 v885 v886 v887 v888 v889
theorem impl_natDiv_L6.ex : ∃ f : ((α : Type) → Nat → Nat → Int → List Int → Int → Int → Int → Int → List Int → List Int → (Int → List Int → Int → Int → Int → List Int → List Int → Option α) → Option α), f = fun α => @impl_natDiv_L6.b α := ⟨_, rfl⟩
noncomputable def impl_natDiv_L6 {α : Type} : Nat → Nat → Int → List Int → Int → Int → Int → Int → List Int → List Int → (Int → List Int → Int → Int → Int → List Int → List Int → Option α) → Option α := Classical.choose impl_natDiv_L6.ex α
theorem impl_natDiv_L6.eq : @impl_natDiv_L6 = @impl_natDiv_L6.b := funext fun α => congrFun (Classical.choose_spec impl_natDiv_L6.ex) α
theorem impl_natDiv_L6.zero {α : Type} (N : Nat) (v882 : Int) (v883 : List Int) (v884 : Int) (v885 : Int) (v886 : Int) (v887 : Int) (v888 : List Int) (v889 : List Int) (k0 : Int → List Int → Int → Int → Int → List Int → List Int → Option α) : impl_natDiv_L6 N 0 v882 v883 v884 v885 v886 v887 v888 v889 k0 = none := by rw [impl_natDiv_L6.eq]; rfl
theorem impl_natDiv_L6.succ {α : Type} (N n : Nat) (v882 : Int) (v883 : List Int) (v884 : Int) (v885 : Int) (v886 : Int) (v887 : Int) (v888 : List Int) (v889 : List Int) (k0 : Int → List Int → Int → Int → Int → List Int → List Int → Option α) : impl_natDiv_L6 N (n + 1) v882 v883 v884 v885 v886 v887 v888 v889 k0 = impl_natDiv_L6r N (fun y0 y1 y2 y3 y4 y5 y6 y7 => impl_natDiv_L6 N n y0 y1 y2 y3 y4 y5 y6 y7 k0) k0 v882 v883 v884 v885 v886 v887 v888 v889 := by rw [impl_natDiv_L6.eq]; rfl
noncomputable def impl_natDiv_J34.b {α : Type} (N : Nat) (v936 : Int) (v937 : List Int) (v938 : Int) (v939 : Int) (v940 : Int) (v941 : Int) (v942 : Int) (v943 : Int) (v944 : List Int) (v945 : Int) (v946 : Int) (v947 : List Int) (v948 : List Int) (k0 : Int → List Int → Int → Int → Int → Int → Int → Int → List Int → Int → Int → List Int → List Int → Option α) : Option α :=
  let x949 := (decide (v943 < (0 : Int)))
  bif x949 then
    let x950 := IntKind.i64.wrap (0 - v943)
    let x951 := (IntKind.i64.wrap (x950 + (65536 : Int)))
    let x952 := (IntKind.i64.wrap (x951 - (1 : Int)))
    let x953 := (IntKind.i64.wrap (Int.tdiv x952 (65536 : Int)))
    let x954 := (IntKind.i64.wrap (x953 * (65536 : Int)))
    let x955 := IntKind.i64.wrap (v943 + x954)
    k0 v936 v937 v938 v939 v940 x953 v942 x955 v944 v945 v946 v947 v948
  else
    k0 v936 v937 v938 v939 v940 v941 v942 v943 v944 v945 v946 v947 v948
theorem impl_natDiv_J34.ex : ∃ f : ((α : Type) → Nat → Int → List Int → Int → Int → Int → Int → Int → Int → List Int → Int → Int → List Int → List Int → (Int → List Int → Int → Int → Int → Int → Int → Int → List Int → Int → Int → List Int → List Int → Option α) → Option α), f = fun α => @impl_natDiv_J34.b α := ⟨_, rfl⟩
noncomputable def impl_natDiv_J34 {α : Type} : Nat → Int → List Int → Int → Int → Int → Int → Int → Int → List Int → Int → Int → List Int → List Int → (Int → List Int → Int → Int → Int → Int → Int → Int → List Int → Int → Int → List Int → List Int → Option α) → Option α := Classical.choose impl_natDiv_J34.ex α
theorem impl_natDiv_J34.eq : @impl_natDiv_J34 = @impl_natDiv_J34.b := funext fun α => congrFun (Classical.choose_spec impl_natDiv_J34.ex) α
noncomputable def impl_natDiv_L8r {α : Type} (N : Nat) (next : Int → List Int → Int → Int → Int → Int → List Int → Int → Int → List Int → List Int → Option α) (k0 : Int → List Int → Int → Int → Int → Int → List Int → List Int → Option α) (v918 : Int) (v919 : List Int) (v920 : Int) (v921 : Int) (v922 : Int) (v923 : Int) (v924 : List Int) (v925 : Int) (v926 : Int) (v927 : List Int) (v928 : List Int) : Option α :=
  let x929 := decide (v926 < v925)
  bif x929 then
    bif (decide (v926 < (0 : Int))) then
      none
    else
      match v924[v926.toNat]? with
      | some x930 =>
        let x931 := IntKind.i64.wrap (v921 + v926)
        bif (decide (x931 < (0 : Int))) then
          none
        else
          bif decide (x931.toNat < v927.length) then
            match v927[x931.toNat]? with
            | some x932 =>
              let x933 := IntKind.i64.wrap (x932 - v923)
              let x934 := IntKind.i64.wrap (v922 * x930)
              let x935 := IntKind.i64.wrap (x933 - x934)
              impl_natDiv_J34 N v918 v919 v920 v921 v922 (0 : Int) v926 x935 v924 v925 v926 v927 v928
                (fun x956 x957 x958 x959 x960 x961 x962 x963 x964 x965 x966 x967 x968 =>
                  let x969 := IntKind.i64.wrap (x959 + x962)
                  bif (decide (x969 < (0 : Int))) then
                    none
                  else
                    bif decide (x969.toNat < x967.length) then
                      match x967[x969.toNat]? with
                      | some x970 =>
                        let x971 := x967.set x969.toNat x963
                        let x972 := (IntKind.i64.wrap (x966 + (1 : Int)))
                        next x956 x957 x958 x959 x960 x961 x964 x965 x972 x971 x968
                      | none => none
                    else
                      none)
            | none => none
          else
            none
      | none => none
  else
    k0 v918 v919 v920 v921 v922 v923 v927 v928
noncomputable def impl_natDiv_L8.b {α : Type} (N n : Nat) (v918 : Int) (v919 : List Int) (v920 : Int) (v921 : Int) (v922 : Int) (v923 : Int) (v924 : List Int) (v925 : Int) (v926 : Int) (v927 : List Int) (v928 : List Int) (k0 : Int → List Int → Int → Int → Int → Int → List Int → List Int → Option α) : Option α :=
  Nat.rec (motive := fun _ => Int → List Int → Int → Int → Int → Int → List Int → Int → Int → List Int → List Int → Option α) (fun _ _ _ _ _ _ _ _ _ _ _ => none) (fun _ next => impl_natDiv_L8r N next k0) n v918 v919 v920 v921 v922 v923 v924 v925 v926 v927 v928
theorem impl_natDiv_L8.ex : ∃ f : ((α : Type) → Nat → Nat → Int → List Int → Int → Int → Int → Int → List Int → Int → Int → List Int → List Int → (Int → List Int → Int → Int → Int → Int → List Int → List Int → Option α) → Option α), f = fun α => @impl_natDiv_L8.b α := ⟨_, rfl⟩
noncomputable def impl_natDiv_L8 {α : Type} : Nat → Nat → Int → List Int → Int → Int → Int → Int → List Int → Int → Int → List Int → List Int → (Int → List Int → Int → Int → Int → Int → List Int → List Int → Option α) → Option α := Classical.choose impl_natDiv_L8.ex α
theorem impl_natDiv_L8.eq : @impl_natDiv_L8 = @impl_natDiv_L8.b := funext fun α => congrFun (Classical.choose_spec impl_natDiv_L8.ex) α
theorem impl_natDiv_L8.zero {α : Type} (N : Nat) (v918 : Int) (v919 : List Int) (v920 : Int) (v921 : Int) (v922 : Int) (v923 : Int) (v924 : List Int) (v925 : Int) (v926 : Int) (v927 : List Int) (v928 : List Int) (k0 : Int → List Int → Int → Int → Int → Int → List Int → List Int → Option α) : impl_natDiv_L8 N 0 v918 v919 v920 v921 v922 v923 v924 v925 v926 v927 v928 k0 = none := by rw [impl_natDiv_L8.eq]; rfl
theorem impl_natDiv_L8.succ {α : Type} (N n : Nat) (v918 : Int) (v919 : List Int) (v920 : Int) (v921 : Int) (v922 : Int) (v923 : Int) (v924 : List Int) (v925 : Int) (v926 : Int) (v927 : List Int) (v928 : List Int) (k0 : Int → List Int → Int → Int → Int → Int → List Int → List Int → Option α) : impl_natDiv_L8 N (n + 1) v918 v919 v920 v921 v922 v923 v924 v925 v926 v927 v928 k0 = impl_natDiv_L8r N (fun y0 y1 y2 y3 y4 y5 y6 y7 y8 y9 y10 => impl_natDiv_L8 N n y0 y1 y2 y3 y4 y5 y6 y7 y8 y9 y10 k0) k0 v918 v919 v920 v921 v922 v923 v924 v925 v926 v927 v928 := by rw [impl_natDiv_L8.eq]; rfl
noncomputable def impl_natDiv_L10r {α : Type} (N : Nat) (next : Int → List Int → Int → Int → Int → Int → List Int → Int → Int → List Int → List Int → Option α) (k0 : Int → List Int → Int → Int → Int → Int → List Int → List Int → Option α) (v998 : Int) (v999 : List Int) (v1000 : Int) (v1001 : Int) (v1002 : Int) (v1003 : Int) (v1004 : List Int) (v1005 : Int) (v1006 : Int) (v1007 : List Int) (v1008 : List Int) : Option α :=
  let x1009 := decide (v1006 < v1005)
  bif x1009 then
    bif (decide (v1006 < (0 : Int))) then
      none
    else
      match v1004[v1006.toNat]? with
      | some x1010 =>
        let x1011 := IntKind.i64.wrap (v1001 + v1006)
        bif (decide (x1011 < (0 : Int))) then
          none
        else
          bif decide (x1011.toNat < v1007.length) then
            match v1007[x1011.toNat]? with
            | some x1012 =>
              let x1013 := IntKind.i64.wrap (x1012 + x1010)
              let x1014 := IntKind.i64.wrap (x1013 + v1003)
              let x1015 := IntKind.i64.wrap (v1001 + v1006)
              let x1016 := (bitI .and .i64 x1014 (65535 : Int))
              let x1017 := (shrI .i64 x1014 (16 : Int))
              bif (decide (x1015 < (0 : Int))) then
                none
              else
                bif decide (x1015.toNat < v1007.length) then
                  match v1007[x1015.toNat]? with
                  | some x1018 =>
                    let x1019 := v1007.set x1015.toNat x1016
                    let x1020 := (IntKind.i64.wrap (v1006 + (1 : Int)))
                    next v998 v999 v1000 v1001 v1002 x1017 v1004 v1005 x1020 x1019 v1008
                  | none => none
                else
                  none
            | none => none
          else
            none
      | none => none
  else
    k0 v998 v999 v1000 v1001 v1002 v1003 v1007 v1008
noncomputable def impl_natDiv_L10.b {α : Type} (N n : Nat) (v998 : Int) (v999 : List Int) (v1000 : Int) (v1001 : Int) (v1002 : Int) (v1003 : Int) (v1004 : List Int) (v1005 : Int) (v1006 : Int) (v1007 : List Int) (v1008 : List Int) (k0 : Int → List Int → Int → Int → Int → Int → List Int → List Int → Option α) : Option α :=
  Nat.rec (motive := fun _ => Int → List Int → Int → Int → Int → Int → List Int → Int → Int → List Int → List Int → Option α) (fun _ _ _ _ _ _ _ _ _ _ _ => none) (fun _ next => impl_natDiv_L10r N next k0) n v998 v999 v1000 v1001 v1002 v1003 v1004 v1005 v1006 v1007 v1008
theorem impl_natDiv_L10.ex : ∃ f : ((α : Type) → Nat → Nat → Int → List Int → Int → Int → Int → Int → List Int → Int → Int → List Int → List Int → (Int → List Int → Int → Int → Int → Int → List Int → List Int → Option α) → Option α), f = fun α => @impl_natDiv_L10.b α := ⟨_, rfl⟩
noncomputable def impl_natDiv_L10 {α : Type} : Nat → Nat → Int → List Int → Int → Int → Int → Int → List Int → Int → Int → List Int → List Int → (Int → List Int → Int → Int → Int → Int → List Int → List Int → Option α) → Option α := Classical.choose impl_natDiv_L10.ex α
theorem impl_natDiv_L10.eq : @impl_natDiv_L10 = @impl_natDiv_L10.b := funext fun α => congrFun (Classical.choose_spec impl_natDiv_L10.ex) α
theorem impl_natDiv_L10.zero {α : Type} (N : Nat) (v998 : Int) (v999 : List Int) (v1000 : Int) (v1001 : Int) (v1002 : Int) (v1003 : Int) (v1004 : List Int) (v1005 : Int) (v1006 : Int) (v1007 : List Int) (v1008 : List Int) (k0 : Int → List Int → Int → Int → Int → Int → List Int → List Int → Option α) : impl_natDiv_L10 N 0 v998 v999 v1000 v1001 v1002 v1003 v1004 v1005 v1006 v1007 v1008 k0 = none := by rw [impl_natDiv_L10.eq]; rfl
theorem impl_natDiv_L10.succ {α : Type} (N n : Nat) (v998 : Int) (v999 : List Int) (v1000 : Int) (v1001 : Int) (v1002 : Int) (v1003 : Int) (v1004 : List Int) (v1005 : Int) (v1006 : Int) (v1007 : List Int) (v1008 : List Int) (k0 : Int → List Int → Int → Int → Int → Int → List Int → List Int → Option α) : impl_natDiv_L10 N (n + 1) v998 v999 v1000 v1001 v1002 v1003 v1004 v1005 v1006 v1007 v1008 k0 = impl_natDiv_L10r N (fun y0 y1 y2 y3 y4 y5 y6 y7 y8 y9 y10 => impl_natDiv_L10 N n y0 y1 y2 y3 y4 y5 y6 y7 y8 y9 y10 k0) k0 v998 v999 v1000 v1001 v1002 v1003 v1004 v1005 v1006 v1007 v1008 := by rw [impl_natDiv_L10.eq]; rfl
noncomputable def impl_natDiv_J40.b {α : Type} (N : Nat) (v986 : Int) (v987 : List Int) (v988 : Int) (v989 : Int) (v990 : Int) (v991 : List Int) (v992 : List Int) (k0 : Int → List Int → Int → Int → Int → List Int → List Int → Option α) : Option α :=
  let x993 := IntKind.i64.wrap (v989 + v988)
  bif (decide (x993 < (0 : Int))) then
    none
  else
    bif decide (x993.toNat < v991.length) then
      match v991[x993.toNat]? with
      | some x994 =>
        let x995 := (decide (x994 < (0 : Int)))
        bif x995 then
          let x996 := (IntKind.i64.wrap (v990 - (1 : Int)))
          let x997 := ((v987.length : Nat) : Int)
          impl_natDiv_L10 N N v986 v987 v988 v989 x996 (0 : Int) v987 x997 (0 : Int) v991 v992
            (fun x1021 x1022 x1023 x1024 x1025 x1026 x1027 x1028 =>
              let x1029 := IntKind.i64.wrap (x1024 + x1023)
              bif (decide (x1029 < (0 : Int))) then
                none
              else
                bif decide (x1029.toNat < x1027.length) then
                  match x1027[x1029.toNat]? with
                  | some x1030 =>
                    let x1031 := IntKind.i64.wrap (x1030 + x1026)
                    bif (decide (x1029 < (0 : Int))) then
                      none
                    else
                      bif decide (x1029.toNat < x1027.length) then
                        match x1027[x1029.toNat]? with
                        | some x1032 =>
                          let x1033 := x1027.set x1029.toNat x1031
                          k0 x1021 x1022 x1023 x1024 x1025 x1033 x1028
                        | none => none
                      else
                        none
                  | none => none
                else
                  none)
        else
          k0 v986 v987 v988 v989 v990 v991 v992
      | none => none
    else
      none
theorem impl_natDiv_J40.ex : ∃ f : ((α : Type) → Nat → Int → List Int → Int → Int → Int → List Int → List Int → (Int → List Int → Int → Int → Int → List Int → List Int → Option α) → Option α), f = fun α => @impl_natDiv_J40.b α := ⟨_, rfl⟩
noncomputable def impl_natDiv_J40 {α : Type} : Nat → Int → List Int → Int → Int → Int → List Int → List Int → (Int → List Int → Int → Int → Int → List Int → List Int → Option α) → Option α := Classical.choose impl_natDiv_J40.ex α
theorem impl_natDiv_J40.eq : @impl_natDiv_J40 = @impl_natDiv_J40.b := funext fun α => congrFun (Classical.choose_spec impl_natDiv_J40.ex) α
noncomputable def impl_natDiv_L4r {α : Type} (N : Nat) (next : Int → List Int → Int → Int → List Int → List Int → Option α) (k0 : Int → List Int → List Int → Option α) (v862 : Int) (v863 : List Int) (v864 : Int) (v865 : Int) (v866 : List Int) (v867 : List Int) : Option α :=
  let x868 := (decide ((0 : Int) ≤ v865))
  bif x868 then
    let x869 := IntKind.i64.wrap (v865 + v864)
    bif (decide (x869 < (0 : Int))) then
      none
    else
      bif decide (x869.toNat < v866.length) then
        match v866[x869.toNat]? with
        | some x870 =>
          let x871 := (shlI .i64 x870 (16 : Int))
          let x872 := IntKind.i64.wrap (v865 + v864)
          let x873 := (IntKind.i64.wrap (x872 - (1 : Int)))
          bif (decide (x873 < (0 : Int))) then
            none
          else
            bif decide (x873.toNat < v866.length) then
              match v866[x873.toNat]? with
              | some x874 =>
                let x875 := bitI .or .i64 x871 x874
                let x876 := (IntKind.i64.wrap (v864 - (1 : Int)))
                bif (decide (x876 < (0 : Int))) then
                  none
                else
                  match v863[x876.toNat]? with
                  | some x877 =>
                    bif (decide (x877 = (0 : Int))) then
                      none
                    else
                      let x878 := IntKind.i64.wrap (Int.tdiv x875 x877)
                      let x879 := (IntKind.i64.wrap (v864 - (1 : Int)))
                      bif (decide (x879 < (0 : Int))) then
                        none
                      else
                        match v863[x879.toNat]? with
                        | some x880 =>
                          bif (decide (x880 = (0 : Int))) then
                            none
                          else
                            let x881 := Int.tmod x875 x880
                            impl_natDiv_L6 N N v862 v863 v864 v865 x878 x881 v866 v867
                              (fun x910 x911 x912 x913 x914 x915 x916 =>
                                let x917 := ((x911.length : Nat) : Int)
                                impl_natDiv_L8 N N x910 x911 x912 x913 x914 (0 : Int) x911 x917 (0 : Int) x915 x916
                                  (fun x973 x974 x975 x976 x977 x978 x979 x980 =>
                                    let x981 := IntKind.i64.wrap (x976 + x975)
                                    bif (decide (x981 < (0 : Int))) then
                                      none
                                    else
                                      bif decide (x981.toNat < x979.length) then
                                        match x979[x981.toNat]? with
                                        | some x982 =>
                                          let x983 := IntKind.i64.wrap (x982 - x978)
                                          bif (decide (x981 < (0 : Int))) then
                                            none
                                          else
                                            bif decide (x981.toNat < x979.length) then
                                              match x979[x981.toNat]? with
                                              | some x984 =>
                                                let x985 := x979.set x981.toNat x983
                                                impl_natDiv_J40 N x973 x974 x975 x976 x977 x985 x980
                                                  (fun x1034 x1035 x1036 x1037 x1038 x1039 x1040 =>
                                                    bif (decide (x1037 < (0 : Int))) then
                                                      none
                                                    else
                                                      bif decide (x1037.toNat < x1040.length) then
                                                        match x1040[x1037.toNat]? with
                                                        | some x1041 =>
                                                          let x1042 := x1040.set x1037.toNat x1038
                                                          let x1043 := (IntKind.i64.wrap (x1037 - (1 : Int)))
                                                          next x1034 x1035 x1036 x1043 x1039 x1042
                                                        | none => none
                                                      else
                                                        none)
                                              | none => none
                                            else
                                              none
                                        | none => none
                                      else
                                        none))
                        | none => none
                  | none => none
              | none => none
            else
              none
        | none => none
      else
        none
  else
    k0 v862 v866 v867
noncomputable def impl_natDiv_L4.b {α : Type} (N n : Nat) (v862 : Int) (v863 : List Int) (v864 : Int) (v865 : Int) (v866 : List Int) (v867 : List Int) (k0 : Int → List Int → List Int → Option α) : Option α :=
  Nat.rec (motive := fun _ => Int → List Int → Int → Int → List Int → List Int → Option α) (fun _ _ _ _ _ _ => none) (fun _ next => impl_natDiv_L4r N next k0) n v862 v863 v864 v865 v866 v867
theorem impl_natDiv_L4.ex : ∃ f : ((α : Type) → Nat → Nat → Int → List Int → Int → Int → List Int → List Int → (Int → List Int → List Int → Option α) → Option α), f = fun α => @impl_natDiv_L4.b α := ⟨_, rfl⟩
noncomputable def impl_natDiv_L4 {α : Type} : Nat → Nat → Int → List Int → Int → Int → List Int → List Int → (Int → List Int → List Int → Option α) → Option α := Classical.choose impl_natDiv_L4.ex α
theorem impl_natDiv_L4.eq : @impl_natDiv_L4 = @impl_natDiv_L4.b := funext fun α => congrFun (Classical.choose_spec impl_natDiv_L4.ex) α
theorem impl_natDiv_L4.zero {α : Type} (N : Nat) (v862 : Int) (v863 : List Int) (v864 : Int) (v865 : Int) (v866 : List Int) (v867 : List Int) (k0 : Int → List Int → List Int → Option α) : impl_natDiv_L4 N 0 v862 v863 v864 v865 v866 v867 k0 = none := by rw [impl_natDiv_L4.eq]; rfl
theorem impl_natDiv_L4.succ {α : Type} (N n : Nat) (v862 : Int) (v863 : List Int) (v864 : Int) (v865 : Int) (v866 : List Int) (v867 : List Int) (k0 : Int → List Int → List Int → Option α) : impl_natDiv_L4 N (n + 1) v862 v863 v864 v865 v866 v867 k0 = impl_natDiv_L4r N (fun y0 y1 y2 y3 y4 y5 => impl_natDiv_L4 N n y0 y1 y2 y3 y4 y5 k0) k0 v862 v863 v864 v865 v866 v867 := by rw [impl_natDiv_L4.eq]; rfl
/-- loop.example/pinfold/impl.natDiv -/
noncomputable def impl_natDiv.b {α : Type} (N : Nat) (a595 : List Int) (a596 : List Int) (k0 : List Int → List Int → Option α) : Option α :=
  impl_natCmp N a595 a596
    (fun x623 =>
      let x624 := (decide (x623 < (0 : Int)))
      bif x624 then
        k0 [] a595
      else
        let x625 := ((a596.length : Nat) : Int)
        let x626 := (decide (x625 = (1 : Int)))
        bif x626 then
          let x627 := ((a595.length : Nat) : Int)
          bif (decide ((0 : Int) ≤ x627)) then
            bif decide (x627 ≤ x627) then
              bif (decide (x627 ≤ ((8796093022208 : Nat) : Int))) then
                let x628 := (List.replicate x627.toNat (0 : Int))
                let x629 := ((a595.length : Nat) : Int)
                let x630 := (IntKind.i64.wrap (x629 - (1 : Int)))
                impl_natDiv_L0 N N a595 a596 (0 : Int) x630 x628
                  (fun x647 x648 =>
                    impl_trim N x648
                      (fun x661 =>
                        let x662 := [x647]
                        impl_trim N x662
                          (fun x663 =>
                            k0 x661 x663)))
              else
                none
            else
              none
          else
            none
        else
          let x664 := ((a596.length : Nat) : Int)
          let x665 := (IntKind.i64.wrap (x664 - (1 : Int)))
          bif (decide (x665 < (0 : Int))) then
            none
          else
            match a596[x665.toNat]? with
            | some x666 =>
              let x667 := IntKind.u64.wrap x666
              math_bits_Len N x667
                (fun x696 =>
                  let x697 := (IntKind.i64.wrap ((16 : Int) - x696))
                  impl_natShift N a596 x697
                    (fun x835 =>
                      impl_natShift N a595 x697
                        (fun x836 =>
                          slices_Clone_int_int N x836
                            (fun x837 =>
                              let x838 := [(0 : Int)]
                              bif decide (x837.length + x838.length ≤ 8796093022208) then
                                let x839 := x837 ++ x838
                                let x840 := ((x835.length : Nat) : Int)
                                impl_natDiv_L2 N N a595 x697 x835 x840 x839
                                  (fun x852 x853 x854 x855 =>
                                    let x856 := ((x855.length : Nat) : Int)
                                    let x857 := IntKind.i64.wrap (x856 - x854)
                                    bif (decide ((0 : Int) ≤ x857)) then
                                      bif decide (x857 ≤ x857) then
                                        bif (decide (x857 ≤ ((8796093022208 : Nat) : Int))) then
                                          let x858 := (List.replicate x857.toNat (0 : Int))
                                          let x859 := ((x855.length : Nat) : Int)
                                          let x860 := IntKind.i64.wrap (x859 - x854)
                                          let x861 := (IntKind.i64.wrap (x860 - (1 : Int)))
                                          impl_natDiv_L4 N N x852 x853 x854 x861 x855 x858
                                            (fun x1044 x1045 x1046 =>
                                              impl_trim N x1046
                                                (fun x1047 =>
                                                  impl_trim N x1045
                                                    (fun x1048 =>
                                                      let x1049 := IntKind.i64.wrap (0 - x1044)
                                                      impl_natShift N x1048 x1049
                                                        (fun x1050 =>
                                                          k0 x1047 x1050))))
                                        else
                                          none
                                      else
                                        none
                                    else
                                      none)
                              else
                                none))))
            | none => none)
theorem impl_natDiv.ex : ∃ f : ((α : Type) → Nat → List Int → List Int → (List Int → List Int → Option α) → Option α), f = fun α => @impl_natDiv.b α := ⟨_, rfl⟩
noncomputable def impl_natDiv {α : Type} : Nat → List Int → List Int → (List Int → List Int → Option α) → Option α := Classical.choose impl_natDiv.ex α
theorem impl_natDiv.eq : @impl_natDiv = @impl_natDiv.b := funext fun α => congrFun (Classical.choose_spec impl_natDiv.ex) α

noncomputable def impl_natGcd_L0r {α : Type} (N : Nat) (next : List Int → List Int → Option α) (k0 : List Int → Option α) (v522 : List Int) (v523 : List Int) : Option α :=
  let x524 := ((v523.length : Nat) : Int)
  let x525 := (decide ((0 : Int) < x524))
  bif x525 then
    impl_natDiv N v522 v523
      (fun _ x1052 =>
        next v523 x1052)
  else
    k0 v522
noncomputable def impl_natGcd_L0.b {α : Type} (N n : Nat) (v522 : List Int) (v523 : List Int) (k0 : List Int → Option α) : Option α :=
  Nat.rec (motive := fun _ => List Int → List Int → Option α) (fun _ _ => none) (fun _ next => impl_natGcd_L0r N next k0) n v522 v523
theorem impl_natGcd_L0.ex : ∃ f : ((α : Type) → Nat → Nat → List Int → List Int → (List Int → Option α) → Option α), f = fun α => @impl_natGcd_L0.b α := ⟨_, rfl⟩
noncomputable def impl_natGcd_L0 {α : Type} : Nat → Nat → List Int → List Int → (List Int → Option α) → Option α := Classical.choose impl_natGcd_L0.ex α
theorem impl_natGcd_L0.eq : @impl_natGcd_L0 = @impl_natGcd_L0.b := funext fun α => congrFun (Classical.choose_spec impl_natGcd_L0.ex) α
theorem impl_natGcd_L0.zero {α : Type} (N : Nat) (v522 : List Int) (v523 : List Int) (k0 : List Int → Option α) : impl_natGcd_L0 N 0 v522 v523 k0 = none := by rw [impl_natGcd_L0.eq]; rfl
theorem impl_natGcd_L0.succ {α : Type} (N n : Nat) (v522 : List Int) (v523 : List Int) (k0 : List Int → Option α) : impl_natGcd_L0 N (n + 1) v522 v523 k0 = impl_natGcd_L0r N (fun y0 y1 => impl_natGcd_L0 N n y0 y1 k0) k0 v522 v523 := by rw [impl_natGcd_L0.eq]; rfl
/-- loop.example/pinfold/impl.natGcd -/
noncomputable def impl_natGcd.b {α : Type} (N : Nat) (a520 : List Int) (a521 : List Int) (k0 : List Int → Option α) : Option α :=
  impl_natGcd_L0 N N a520 a521
    (fun x1053 =>
      k0 x1053)
theorem impl_natGcd.ex : ∃ f : ((α : Type) → Nat → List Int → List Int → (List Int → Option α) → Option α), f = fun α => @impl_natGcd.b α := ⟨_, rfl⟩
noncomputable def impl_natGcd {α : Type} : Nat → List Int → List Int → (List Int → Option α) → Option α := Classical.choose impl_natGcd.ex α
theorem impl_natGcd.eq : @impl_natGcd = @impl_natGcd.b := funext fun α => congrFun (Classical.choose_spec impl_natGcd.ex) α

/-- loop.example/pinfold/impl.FracOk -/
noncomputable def impl_FracOk.b {α : Type} (N : Nat) (a460 : Bool × (List Int) × (List Int) × Unit) (k0 : Bool → Option α) : Option α :=
  let x461 := [a460.2.1, a460.2.2.1]
  impl_nats N x461
    (fun x515 =>
      bif x515 then
        let x516 := ((a460.2.2.1.length : Nat) : Int)
        let x517 := (decide ((0 : Int) < x516))
        bif x517 then
          let x518 := ((a460.2.1.length : Nat) : Int)
          let x519 := (decide ((0 : Int) < x518))
          bif x519 then
            impl_natGcd N a460.2.1 a460.2.2.1
              (fun x1054 =>
                let x1055 := [(1 : Int)]
                impl_natCmp N x1054 x1055
                  (fun x1056 =>
                    let x1057 := (decide (x1056 = (0 : Int)))
                    k0 x1057))
          else
            let x1058 := !a460.1
            bif x1058 then
              impl_natGcd N a460.2.1 a460.2.2.1
                (fun x1059 =>
                  let x1060 := [(1 : Int)]
                  impl_natCmp N x1059 x1060
                    (fun x1061 =>
                      let x1062 := (decide (x1061 = (0 : Int)))
                      k0 x1062))
            else
              k0 false
        else
          k0 false
      else
        k0 false)
theorem impl_FracOk.ex : ∃ f : ((α : Type) → Nat → (Bool × (List Int) × (List Int) × Unit) → (Bool → Option α) → Option α), f = fun α => @impl_FracOk.b α := ⟨_, rfl⟩
noncomputable def impl_FracOk {α : Type} : Nat → (Bool × (List Int) × (List Int) × Unit) → (Bool → Option α) → Option α := Classical.choose impl_FracOk.ex α
theorem impl_FracOk.eq : @impl_FracOk = @impl_FracOk.b := funext fun α => congrFun (Classical.choose_spec impl_FracOk.ex) α

noncomputable def impl_natAdd_L0r {α : Type} (N : Nat) (next : List Int → Int → Int → List Int → Option α) (k0 : List Int → Option α) (v1087 : List Int) (v1088 : Int) (v1089 : Int) (v1090 : List Int) : Option α :=
  let x1091 := decide (v1089 < v1088)
  bif x1091 then
    bif (decide (v1089 < (0 : Int))) then
      none
    else
      match v1087[v1089.toNat]? with
      | some x1092 =>
        bif (decide (v1089 < (0 : Int))) then
          none
        else
          bif decide (v1089.toNat < v1090.length) then
            match v1090[v1089.toNat]? with
            | some x1093 =>
              let x1094 := IntKind.i64.wrap (x1093 + x1092)
              bif (decide (v1089 < (0 : Int))) then
                none
              else
                bif decide (v1089.toNat < v1090.length) then
                  match v1090[v1089.toNat]? with
                  | some x1095 =>
                    let x1096 := v1090.set v1089.toNat x1094
                    let x1097 := (IntKind.i64.wrap (v1089 + (1 : Int)))
                    next v1087 v1088 x1097 x1096
                  | none => none
                else
                  none
            | none => none
          else
            none
      | none => none
  else
    k0 v1090
noncomputable def impl_natAdd_L0.b {α : Type} (N n : Nat) (v1087 : List Int) (v1088 : Int) (v1089 : Int) (v1090 : List Int) (k0 : List Int → Option α) : Option α :=
  Nat.rec (motive := fun _ => List Int → Int → Int → List Int → Option α) (fun _ _ _ _ => none) (fun _ next => impl_natAdd_L0r N next k0) n v1087 v1088 v1089 v1090
theorem impl_natAdd_L0.ex : ∃ f : ((α : Type) → Nat → Nat → List Int → Int → Int → List Int → (List Int → Option α) → Option α), f = fun α => @impl_natAdd_L0.b α := ⟨_, rfl⟩
noncomputable def impl_natAdd_L0 {α : Type} : Nat → Nat → List Int → Int → Int → List Int → (List Int → Option α) → Option α := Classical.choose impl_natAdd_L0.ex α
theorem impl_natAdd_L0.eq : @impl_natAdd_L0 = @impl_natAdd_L0.b := funext fun α => congrFun (Classical.choose_spec impl_natAdd_L0.ex) α
theorem impl_natAdd_L0.zero {α : Type} (N : Nat) (v1087 : List Int) (v1088 : Int) (v1089 : Int) (v1090 : List Int) (k0 : List Int → Option α) : impl_natAdd_L0 N 0 v1087 v1088 v1089 v1090 k0 = none := by rw [impl_natAdd_L0.eq]; rfl
theorem impl_natAdd_L0.succ {α : Type} (N n : Nat) (v1087 : List Int) (v1088 : Int) (v1089 : Int) (v1090 : List Int) (k0 : List Int → Option α) : impl_natAdd_L0 N (n + 1) v1087 v1088 v1089 v1090 k0 = impl_natAdd_L0r N (fun y0 y1 y2 y3 => impl_natAdd_L0 N n y0 y1 y2 y3 k0) k0 v1087 v1088 v1089 v1090 := by rw [impl_natAdd_L0.eq]; rfl
noncomputable def impl_natAdd_L2r {α : Type} (N : Nat) (next : Int → Int → List Int → Option α) (k0 : List Int → Option α) (v1101 : Int) (v1102 : Int) (v1103 : List Int) : Option α :=
  let x1104 := decide (v1102 < v1101)
  bif x1104 then
    let x1105 := (IntKind.i64.wrap (v1102 + (1 : Int)))
    bif (decide (x1105 < (0 : Int))) then
      none
    else
      bif decide (x1105.toNat < v1103.length) then
        match v1103[x1105.toNat]? with
        | some x1106 =>
          bif (decide (v1102 < (0 : Int))) then
            none
          else
            bif decide (v1102.toNat < v1103.length) then
              match v1103[v1102.toNat]? with
              | some x1107 =>
                let x1108 := (shrI .i64 x1107 (16 : Int))
                let x1109 := IntKind.i64.wrap (x1106 + x1108)
                bif (decide (x1105 < (0 : Int))) then
                  none
                else
                  bif decide (x1105.toNat < v1103.length) then
                    match v1103[x1105.toNat]? with
                    | some x1110 =>
                      let x1111 := v1103.set x1105.toNat x1109
                      bif (decide (v1102 < (0 : Int))) then
                        none
                      else
                        bif decide (v1102.toNat < x1111.length) then
                          match x1111[v1102.toNat]? with
                          | some x1112 =>
                            let x1113 := (bitI .and .i64 x1112 (65535 : Int))
                            bif (decide (v1102 < (0 : Int))) then
                              none
                            else
                              bif decide (v1102.toNat < x1111.length) then
                                match x1111[v1102.toNat]? with
                                | some x1114 =>
                                  let x1115 := x1111.set v1102.toNat x1113
                                  let x1116 := (IntKind.i64.wrap (v1102 + (1 : Int)))
                                  next v1101 x1116 x1115
                                | none => none
                              else
                                none
                          | none => none
                        else
                          none
                    | none => none
                  else
                    none
              | none => none
            else
              none
        | none => none
      else
        none
  else
    k0 v1103
noncomputable def impl_natAdd_L2.b {α : Type} (N n : Nat) (v1101 : Int) (v1102 : Int) (v1103 : List Int) (k0 : List Int → Option α) : Option α :=
  Nat.rec (motive := fun _ => Int → Int → List Int → Option α) (fun _ _ _ => none) (fun _ next => impl_natAdd_L2r N next k0) n v1101 v1102 v1103
theorem impl_natAdd_L2.ex : ∃ f : ((α : Type) → Nat → Nat → Int → Int → List Int → (List Int → Option α) → Option α), f = fun α => @impl_natAdd_L2.b α := ⟨_, rfl⟩
noncomputable def impl_natAdd_L2 {α : Type} : Nat → Nat → Int → Int → List Int → (List Int → Option α) → Option α := Classical.choose impl_natAdd_L2.ex α
theorem impl_natAdd_L2.eq : @impl_natAdd_L2 = @impl_natAdd_L2.b := funext fun α => congrFun (Classical.choose_spec impl_natAdd_L2.ex) α
theorem impl_natAdd_L2.zero {α : Type} (N : Nat) (v1101 : Int) (v1102 : Int) (v1103 : List Int) (k0 : List Int → Option α) : impl_natAdd_L2 N 0 v1101 v1102 v1103 k0 = none := by rw [impl_natAdd_L2.eq]; rfl
theorem impl_natAdd_L2.succ {α : Type} (N n : Nat) (v1101 : Int) (v1102 : Int) (v1103 : List Int) (k0 : List Int → Option α) : impl_natAdd_L2 N (n + 1) v1101 v1102 v1103 k0 = impl_natAdd_L2r N (fun y0 y1 y2 => impl_natAdd_L2 N n y0 y1 y2 k0) k0 v1101 v1102 v1103 := by rw [impl_natAdd_L2.eq]; rfl
/-- loop.example/pinfold/impl.natAdd -/
noncomputable def impl_natAdd.b {α : Type} (N : Nat) (a1077 : List Int) (a1078 : List Int) (k0 : List Int → Option α) : Option α :=
  let x1079 := ((a1077.length : Nat) : Int)
  let x1080 := ((a1078.length : Nat) : Int)
  let x1081 := maxI x1079 x1080
  let x1082 := (IntKind.i64.wrap (x1081 + (1 : Int)))
  bif (decide ((0 : Int) ≤ x1082)) then
    bif decide (x1082 ≤ x1082) then
      bif (decide (x1082 ≤ ((8796093022208 : Nat) : Int))) then
        let x1083 := (List.replicate x1082.toNat (0 : Int))
        let x1084 := List.take (min a1077.length x1083.length) a1077 ++ List.drop (min a1077.length x1083.length) x1083
        let x1086 := ((a1078.length : Nat) : Int)
        impl_natAdd_L0 N N a1078 x1086 (0 : Int) x1084
          (fun x1098 =>
            let x1099 := ((x1098.length : Nat) : Int)
            let x1100 := (IntKind.i64.wrap (x1099 - (1 : Int)))
            impl_natAdd_L2 N N x1100 (0 : Int) x1098
              (fun x1117 =>
                impl_trim N x1117
                  (fun x1118 =>
                    k0 x1118)))
      else
        none
    else
      none
  else
    none
theorem impl_natAdd.ex : ∃ f : ((α : Type) → Nat → List Int → List Int → (List Int → Option α) → Option α), f = fun α => @impl_natAdd.b α := ⟨_, rfl⟩
noncomputable def impl_natAdd {α : Type} : Nat → List Int → List Int → (List Int → Option α) → Option α := Classical.choose impl_natAdd.ex α
theorem impl_natAdd.eq : @impl_natAdd = @impl_natAdd.b := funext fun α => congrFun (Classical.choose_spec impl_natAdd.ex) α

/-- loop.example/pinfold/impl.whole -/
noncomputable def impl_whole.b {α : Type} (N : Nat) (a1125 : Bool) (a1126 : List Int) (k0 : Bool → List Int → List Int → Option α) : Option α :=
  bif a1125 then
    let x1127 := ((a1126.length : Nat) : Int)
    let x1128 := (decide ((0 : Int) < x1127))
    let x1129 := [(1 : Int)]
    k0 x1128 a1126 x1129
  else
    let x1130 := [(1 : Int)]
    k0 false a1126 x1130
theorem impl_whole.ex : ∃ f : ((α : Type) → Nat → Bool → List Int → (Bool → List Int → List Int → Option α) → Option α), f = fun α => @impl_whole.b α := ⟨_, rfl⟩
noncomputable def impl_whole {α : Type} : Nat → Bool → List Int → (Bool → List Int → List Int → Option α) → Option α := Classical.choose impl_whole.ex α
theorem impl_whole.eq : @impl_whole = @impl_whole.b := funext fun α => congrFun (Classical.choose_spec impl_whole.ex) α

noncomputable def impl_FracFloor_1_J2.b {α : Type} (N : Nat) (v1068 : List Int) (v1069 : List Int) (v1070 : Bool × (List Int) × (List Int) × Unit) (v1071 : Bool) (v1072 : List Int) (v1073 : List Int) (k0 : List Int → (Bool × (List Int) × (List Int) × Unit) → Bool → List Int → List Int → Option α) : Option α :=
  bif v1070.1 then
    let x1074 := ((v1069.length : Nat) : Int)
    let x1075 := (decide ((0 : Int) < x1074))
    bif x1075 then
      let x1076 := [(1 : Int)]
      impl_natAdd N v1068 x1076
        (fun x1119 =>
          k0 x1119 v1070 v1071 v1072 v1073)
    else
      k0 v1068 v1070 v1071 v1072 v1073
  else
    k0 v1068 v1070 v1071 v1072 v1073
theorem impl_FracFloor_1_J2.ex : ∃ f : ((α : Type) → Nat → List Int → List Int → (Bool × (List Int) × (List Int) × Unit) → Bool → List Int → List Int → (List Int → (Bool × (List Int) × (List Int) × Unit) → Bool → List Int → List Int → Option α) → Option α), f = fun α => @impl_FracFloor_1_J2.b α := ⟨_, rfl⟩
noncomputable def impl_FracFloor_1_J2 {α : Type} : Nat → List Int → List Int → (Bool × (List Int) × (List Int) × Unit) → Bool → List Int → List Int → (List Int → (Bool × (List Int) × (List Int) × Unit) → Bool → List Int → List Int → Option α) → Option α := Classical.choose impl_FracFloor_1_J2.ex α
theorem impl_FracFloor_1_J2.eq : @impl_FracFloor_1_J2 = @impl_FracFloor_1_J2.b := funext fun α => congrFun (Classical.choose_spec impl_FracFloor_1_J2.ex) α
/-- loop.example/pinfold/impl.FracFloor$1 -/
noncomputable def impl_FracFloor_1.b {α : Type} (N : Nat) (a1065 : Bool × (List Int) × (List Int) × Unit) (k0 : Bool → List Int → List Int → Option α) : Option α :=
  impl_natDiv N a1065.2.1 a1065.2.2.1
    (fun x1066 x1067 =>
      impl_FracFloor_1_J2 N x1066 x1067 a1065 false [] []
        (fun x1120 x1121 _ _ _ =>
          impl_whole N x1121.1 x1120
            (fun x1131 x1132 x1133 =>
              k0 x1131 x1132 x1133)))
theorem impl_FracFloor_1.ex : ∃ f : ((α : Type) → Nat → (Bool × (List Int) × (List Int) × Unit) → (Bool → List Int → List Int → Option α) → Option α), f = fun α => @impl_FracFloor_1.b α := ⟨_, rfl⟩
noncomputable def impl_FracFloor_1 {α : Type} : Nat → (Bool × (List Int) × (List Int) × Unit) → (Bool → List Int → List Int → Option α) → Option α := Classical.choose impl_FracFloor_1.ex α
theorem impl_FracFloor_1.eq : @impl_FracFloor_1 = @impl_FracFloor_1.b := funext fun α => congrFun (Classical.choose_spec impl_FracFloor_1.ex) α

/-- slices.Clip[[]int,int] -/
noncomputable def slices_Clip_int_int.b {α : Type} (N : Nat) (a1144 : List Int) (k0 : List Int → Option α) : Option α :=
  let x1145 := ((a1144.length : Nat) : Int)
  let x1146 := ((a1144.length : Nat) : Int)
  bif (decide ((0 : Int) ≤ x1146)) then
    bif (decide (x1146 ≤ ((a1144.length : Nat) : Int))) then
      bif (decide ((0 : Int) ≤ x1145)) then
        bif (decide (x1145 ≤ ((x1146.toNat : Nat) : Int))) then
          let x1147 := a1144.take x1145.toNat
          k0 x1147
        else
          none
      else
        none
    else
      none
  else
    none
theorem slices_Clip_int_int.ex : ∃ f : ((α : Type) → Nat → List Int → (List Int → Option α) → Option α), f = fun α => @slices_Clip_int_int.b α := ⟨_, rfl⟩
noncomputable def slices_Clip_int_int {α : Type} : Nat → List Int → (List Int → Option α) → Option α := Classical.choose slices_Clip_int_int.ex α
theorem slices_Clip_int_int.eq : @slices_Clip_int_int = @slices_Clip_int_int.b := funext fun α => congrFun (Classical.choose_spec slices_Clip_int_int.ex) α

/-- loop.example/pinfold/impl.clone[int] -/
noncomputable def impl_clone_int.b {α : Type} (N : Nat) (a1142 : List Int) (k0 : List Int → Option α) : Option α :=
  slices_Clone_int_int N a1142
    (fun x1143 =>
      slices_Clip_int_int N x1143
        (fun x1148 =>
          k0 x1148))
theorem impl_clone_int.ex : ∃ f : ((α : Type) → Nat → List Int → (List Int → Option α) → Option α), f = fun α => @impl_clone_int.b α := ⟨_, rfl⟩
noncomputable def impl_clone_int {α : Type} : Nat → List Int → (List Int → Option α) → Option α := Classical.choose impl_clone_int.ex α
theorem impl_clone_int.eq : @impl_clone_int = @impl_clone_int.b := funext fun α => congrFun (Classical.choose_spec impl_clone_int.ex) α

/-- loop.example/pinfold/impl.given -/
noncomputable def impl_given.b {α : Type} (N : Nat) (a1137 : Bool × (List Int) × (List Int) × Unit) (k0 : Bool → Bool → List Int → List Int → Option α) : Option α :=
  let x1138 := ((a1137.2.1.length : Nat) : Int)
  let x1139 := (decide ((256 : Int) < x1138))
  bif x1139 then
    k0 false false [] []
  else
    let x1140 := ((a1137.2.2.1.length : Nat) : Int)
    let x1141 := (decide ((256 : Int) < x1140))
    bif x1141 then
      k0 false false [] []
    else
      impl_clone_int N a1137.2.1
        (fun x1149 =>
          impl_clone_int N a1137.2.2.1
            (fun x1150 =>
              k0 a1137.1 true x1149 x1150))
theorem impl_given.ex : ∃ f : ((α : Type) → Nat → (Bool × (List Int) × (List Int) × Unit) → (Bool → Bool → List Int → List Int → Option α) → Option α), f = fun α => @impl_given.b α := ⟨_, rfl⟩
noncomputable def impl_given {α : Type} : Nat → (Bool × (List Int) × (List Int) × Unit) → (Bool → Bool → List Int → List Int → Option α) → Option α := Classical.choose impl_given.ex α
theorem impl_given.eq : @impl_given = @impl_given.b := funext fun α => congrFun (Classical.choose_spec impl_given.ex) α

/-- loop.example/pinfold/impl.one -/
noncomputable def impl_one__impl_FracFloor_1.b {α : Type} (N : Nat) (a459 : Bool × (List Int) × (List Int) × Unit) (k0 : Bool → Bool → List Int → List Int → Option α) : Option α :=
  impl_FracOk N a459
    (fun x1063 =>
      let x1064 := !x1063
      bif x1064 then
        k0 false false [] []
      else
        impl_FracFloor_1 N a459
          (fun x1134 x1135 x1136 =>
            impl_given N (x1134, (x1135, (x1136, ())))
              (fun x1151 x1152 x1153 x1154 =>
                k0 x1151 x1152 x1153 x1154)))
theorem impl_one__impl_FracFloor_1.ex : ∃ f : ((α : Type) → Nat → (Bool × (List Int) × (List Int) × Unit) → (Bool → Bool → List Int → List Int → Option α) → Option α), f = fun α => @impl_one__impl_FracFloor_1.b α := ⟨_, rfl⟩
noncomputable def impl_one__impl_FracFloor_1 {α : Type} : Nat → (Bool × (List Int) × (List Int) × Unit) → (Bool → Bool → List Int → List Int → Option α) → Option α := Classical.choose impl_one__impl_FracFloor_1.ex α
theorem impl_one__impl_FracFloor_1.eq : @impl_one__impl_FracFloor_1 = @impl_one__impl_FracFloor_1.b := funext fun α => congrFun (Classical.choose_spec impl_one__impl_FracFloor_1.ex) α

/-- loop.example/pinfold/impl.FracFloor -/
noncomputable def impl_FracFloor.b {α : Type} (N : Nat) (a458 : Bool × (List Int) × (List Int) × Unit) (k0 : Bool → Bool → List Int → List Int → Option α) : Option α :=
  impl_one__impl_FracFloor_1 N a458
    (fun x1155 x1156 x1157 x1158 =>
      k0 x1155 x1156 x1157 x1158)
theorem impl_FracFloor.ex : ∃ f : ((α : Type) → Nat → (Bool × (List Int) × (List Int) × Unit) → (Bool → Bool → List Int → List Int → Option α) → Option α), f = fun α => @impl_FracFloor.b α := ⟨_, rfl⟩
noncomputable def impl_FracFloor {α : Type} : Nat → (Bool × (List Int) × (List Int) × Unit) → (Bool → Bool → List Int → List Int → Option α) → Option α := Classical.choose impl_FracFloor.ex α
theorem impl_FracFloor.eq : @impl_FracFloor = @impl_FracFloor.b := funext fun α => congrFun (Classical.choose_spec impl_FracFloor.ex) α

noncomputable def laws_eqIntS_L0r {α : Type} (N : Nat) (next : List Int → List Int → Int → Option α) (k0 : Bool → Option α) (k1 : Option α) (v1171 : List Int) (v1172 : List Int) (v1173 : Int) : Option α :=
  let x1174 := ((v1171.length : Nat) : Int)
  let x1175 := decide (v1173 < x1174)
  bif x1175 then
    bif (decide (v1173 < (0 : Int))) then
      none
    else
      match v1171[v1173.toNat]? with
      | some x1176 =>
        bif (decide (v1173 < (0 : Int))) then
          none
        else
          match v1172[v1173.toNat]? with
          | some x1177 =>
            let x1178 := !(decide (x1176 = x1177))
            bif x1178 then
              k0 false
            else
              let x1179 := (IntKind.i64.wrap (v1173 + (1 : Int)))
              next v1171 v1172 x1179
          | none => none
      | none => none
  else
    k1
noncomputable def laws_eqIntS_L0.b {α : Type} (N n : Nat) (v1171 : List Int) (v1172 : List Int) (v1173 : Int) (k0 : Bool → Option α) (k1 : Option α) : Option α :=
  Nat.rec (motive := fun _ => List Int → List Int → Int → Option α) (fun _ _ _ => none) (fun _ next => laws_eqIntS_L0r N next k0 k1) n v1171 v1172 v1173
theorem laws_eqIntS_L0.ex : ∃ f : ((α : Type) → Nat → Nat → List Int → List Int → Int → (Bool → Option α) → (Option α) → Option α), f = fun α => @laws_eqIntS_L0.b α := ⟨_, rfl⟩
noncomputable def laws_eqIntS_L0 {α : Type} : Nat → Nat → List Int → List Int → Int → (Bool → Option α) → (Option α) → Option α := Classical.choose laws_eqIntS_L0.ex α
theorem laws_eqIntS_L0.eq : @laws_eqIntS_L0 = @laws_eqIntS_L0.b := funext fun α => congrFun (Classical.choose_spec laws_eqIntS_L0.ex) α
theorem laws_eqIntS_L0.zero {α : Type} (N : Nat) (v1171 : List Int) (v1172 : List Int) (v1173 : Int) (k0 : Bool → Option α) (k1 : Option α) : laws_eqIntS_L0 N 0 v1171 v1172 v1173 k0 k1 = none := by rw [laws_eqIntS_L0.eq]; rfl
theorem laws_eqIntS_L0.succ {α : Type} (N n : Nat) (v1171 : List Int) (v1172 : List Int) (v1173 : Int) (k0 : Bool → Option α) (k1 : Option α) : laws_eqIntS_L0 N (n + 1) v1171 v1172 v1173 k0 k1 = laws_eqIntS_L0r N (fun y0 y1 y2 => laws_eqIntS_L0 N n y0 y1 y2 k0 k1) k0 k1 v1171 v1172 v1173 := by rw [laws_eqIntS_L0.eq]; rfl
/-- loop.example/pinfold/laws.eqIntS -/
noncomputable def laws_eqIntS.b {α : Type} (N : Nat) (a1166 : List Int) (a1167 : List Int) (k0 : Bool → Option α) : Option α :=
  let x1168 := ((a1166.length : Nat) : Int)
  let x1169 := ((a1167.length : Nat) : Int)
  let x1170 := !(decide (x1168 = x1169))
  bif x1170 then
    k0 false
  else
    laws_eqIntS_L0 N N a1166 a1167 (0 : Int)
      (fun x1180 =>
        k0 x1180)
      (
        k0 true)
theorem laws_eqIntS.ex : ∃ f : ((α : Type) → Nat → List Int → List Int → (Bool → Option α) → Option α), f = fun α => @laws_eqIntS.b α := ⟨_, rfl⟩
noncomputable def laws_eqIntS {α : Type} : Nat → List Int → List Int → (Bool → Option α) → Option α := Classical.choose laws_eqIntS.ex α
theorem laws_eqIntS.eq : @laws_eqIntS = @laws_eqIntS.b := funext fun α => congrFun (Classical.choose_spec laws_eqIntS.ex) α

/-- loop.example/pinfold/laws.eqFrac -/
noncomputable def laws_eqFrac.b {α : Type} (N : Nat) (a1163 : Bool × (List Int) × (List Int) × Unit) (a1164 : Bool × (List Int) × (List Int) × Unit) (k0 : Bool → Option α) : Option α :=
  let x1165 := !(a1163.1 == a1164.1)
  bif x1165 then
    k0 false
  else
    laws_eqIntS N a1163.2.1 a1164.2.1
      (fun x1181 =>
        let x1182 := !x1181
        bif x1182 then
          k0 false
        else
          laws_eqIntS N a1163.2.2.1 a1164.2.2.1
            (fun x1183 =>
              let x1184 := !x1183
              bif x1184 then
                k0 false
              else
                k0 true))
theorem laws_eqFrac.ex : ∃ f : ((α : Type) → Nat → (Bool × (List Int) × (List Int) × Unit) → (Bool × (List Int) × (List Int) × Unit) → (Bool → Option α) → Option α), f = fun α => @laws_eqFrac.b α := ⟨_, rfl⟩
noncomputable def laws_eqFrac {α : Type} : Nat → (Bool × (List Int) × (List Int) × Unit) → (Bool × (List Int) × (List Int) × Unit) → (Bool → Option α) → Option α := Classical.choose laws_eqFrac.ex α
theorem laws_eqFrac.eq : @laws_eqFrac = @laws_eqFrac.b := funext fun α => congrFun (Classical.choose_spec laws_eqFrac.ex) α

noncomputable def laws_markIntS_L0r {α : Type} (N : Nat) (next : Int → Int → List Int → Option α) (k0 : Int → List Int → Option α) (v1199 : Int) (v1200 : Int) (v1201 : List Int) : Option α :=
  let x1202 := ((v1201.length : Nat) : Int)
  let x1203 := decide (v1200 < x1202)
  bif x1203 then
    bif (decide (v1200 < (0 : Int))) then
      none
    else
      bif decide (v1200.toNat < v1201.length) then
        match v1201[v1200.toNat]? with
        | some x1204 =>
          let x1205 := v1201.set v1200.toNat v1199
          let x1206 := (IntKind.i64.wrap (v1199 + (1 : Int)))
          let x1207 := (IntKind.i64.wrap (v1200 + (1 : Int)))
          next x1206 x1207 x1205
        | none => none
      else
        none
  else
    k0 v1199 v1201
noncomputable def laws_markIntS_L0.b {α : Type} (N n : Nat) (v1199 : Int) (v1200 : Int) (v1201 : List Int) (k0 : Int → List Int → Option α) : Option α :=
  Nat.rec (motive := fun _ => Int → Int → List Int → Option α) (fun _ _ _ => none) (fun _ next => laws_markIntS_L0r N next k0) n v1199 v1200 v1201
theorem laws_markIntS_L0.ex : ∃ f : ((α : Type) → Nat → Nat → Int → Int → List Int → (Int → List Int → Option α) → Option α), f = fun α => @laws_markIntS_L0.b α := ⟨_, rfl⟩
noncomputable def laws_markIntS_L0 {α : Type} : Nat → Nat → Int → Int → List Int → (Int → List Int → Option α) → Option α := Classical.choose laws_markIntS_L0.ex α
theorem laws_markIntS_L0.eq : @laws_markIntS_L0 = @laws_markIntS_L0.b := funext fun α => congrFun (Classical.choose_spec laws_markIntS_L0.ex) α
theorem laws_markIntS_L0.zero {α : Type} (N : Nat) (v1199 : Int) (v1200 : Int) (v1201 : List Int) (k0 : Int → List Int → Option α) : laws_markIntS_L0 N 0 v1199 v1200 v1201 k0 = none := by rw [laws_markIntS_L0.eq]; rfl
theorem laws_markIntS_L0.succ {α : Type} (N n : Nat) (v1199 : Int) (v1200 : Int) (v1201 : List Int) (k0 : Int → List Int → Option α) : laws_markIntS_L0 N (n + 1) v1199 v1200 v1201 k0 = laws_markIntS_L0r N (fun y0 y1 y2 => laws_markIntS_L0 N n y0 y1 y2 k0) k0 v1199 v1200 v1201 := by rw [laws_markIntS_L0.eq]; rfl
/-- loop.example/pinfold/laws.markIntS -/
noncomputable def laws_markIntS.b {α : Type} (N : Nat) (a1197 : Int) (a1198 : List Int) (k0 : Int → List Int → Option α) : Option α :=
  laws_markIntS_L0 N N a1197 (0 : Int) a1198
    (fun x1208 x1209 =>
      k0 x1208 x1209)
theorem laws_markIntS.ex : ∃ f : ((α : Type) → Nat → Int → List Int → (Int → List Int → Option α) → Option α), f = fun α => @laws_markIntS.b α := ⟨_, rfl⟩
noncomputable def laws_markIntS {α : Type} : Nat → Int → List Int → (Int → List Int → Option α) → Option α := Classical.choose laws_markIntS.ex α
theorem laws_markIntS.eq : @laws_markIntS = @laws_markIntS.b := funext fun α => congrFun (Classical.choose_spec laws_markIntS.ex) α

/-- loop.example/pinfold/laws.markFrac -/
noncomputable def laws_markFrac.b {α : Type} (N : Nat) (a1193 : Bool) (a1194 : Int) (a1195 : List Int) (a1196 : List Int) (k0 : Int → List Int → List Int → Option α) : Option α :=
  laws_markIntS N a1194 a1195
    (fun x1210 x1211 =>
      laws_markIntS N x1210 a1196
        (fun x1212 x1213 =>
          k0 x1212 x1211 x1213))
theorem laws_markFrac.ex : ∃ f : ((α : Type) → Nat → Bool → Int → List Int → List Int → (Int → List Int → List Int → Option α) → Option α), f = fun α => @laws_markFrac.b α := ⟨_, rfl⟩
noncomputable def laws_markFrac {α : Type} : Nat → Bool → Int → List Int → List Int → (Int → List Int → List Int → Option α) → Option α := Classical.choose laws_markFrac.ex α
theorem laws_markFrac.eq : @laws_markFrac = @laws_markFrac.b := funext fun α => congrFun (Classical.choose_spec laws_markFrac.ex) α

noncomputable def laws_heldIntS_L0r {α : Type} (N : Nat) (next : List Int → Int → Int → Option α) (k0 : Int → Option α) (k1 : Int → Option α) (v1228 : List Int) (v1229 : Int) (v1230 : Int) : Option α :=
  let x1231 := ((v1228.length : Nat) : Int)
  let x1232 := decide (v1230 < x1231)
  bif x1232 then
    bif (decide (v1230 < (0 : Int))) then
      none
    else
      match v1228[v1230.toNat]? with
      | some x1233 =>
        let x1234 := !(decide (x1233 = v1229))
        bif x1234 then
          k0 (-1 : Int)
        else
          let x1235 := (IntKind.i64.wrap (v1229 + (1 : Int)))
          let x1236 := (IntKind.i64.wrap (v1230 + (1 : Int)))
          next v1228 x1235 x1236
      | none => none
  else
    k1 v1229
noncomputable def laws_heldIntS_L0.b {α : Type} (N n : Nat) (v1228 : List Int) (v1229 : Int) (v1230 : Int) (k0 : Int → Option α) (k1 : Int → Option α) : Option α :=
  Nat.rec (motive := fun _ => List Int → Int → Int → Option α) (fun _ _ _ => none) (fun _ next => laws_heldIntS_L0r N next k0 k1) n v1228 v1229 v1230
theorem laws_heldIntS_L0.ex : ∃ f : ((α : Type) → Nat → Nat → List Int → Int → Int → (Int → Option α) → (Int → Option α) → Option α), f = fun α => @laws_heldIntS_L0.b α := ⟨_, rfl⟩
noncomputable def laws_heldIntS_L0 {α : Type} : Nat → Nat → List Int → Int → Int → (Int → Option α) → (Int → Option α) → Option α := Classical.choose laws_heldIntS_L0.ex α
theorem laws_heldIntS_L0.eq : @laws_heldIntS_L0 = @laws_heldIntS_L0.b := funext fun α => congrFun (Classical.choose_spec laws_heldIntS_L0.ex) α
theorem laws_heldIntS_L0.zero {α : Type} (N : Nat) (v1228 : List Int) (v1229 : Int) (v1230 : Int) (k0 : Int → Option α) (k1 : Int → Option α) : laws_heldIntS_L0 N 0 v1228 v1229 v1230 k0 k1 = none := by rw [laws_heldIntS_L0.eq]; rfl
theorem laws_heldIntS_L0.succ {α : Type} (N n : Nat) (v1228 : List Int) (v1229 : Int) (v1230 : Int) (k0 : Int → Option α) (k1 : Int → Option α) : laws_heldIntS_L0 N (n + 1) v1228 v1229 v1230 k0 k1 = laws_heldIntS_L0r N (fun y0 y1 y2 => laws_heldIntS_L0 N n y0 y1 y2 k0 k1) k0 k1 v1228 v1229 v1230 := by rw [laws_heldIntS_L0.eq]; rfl
/-- loop.example/pinfold/laws.heldIntS -/
noncomputable def laws_heldIntS.b {α : Type} (N : Nat) (a1226 : List Int) (a1227 : Int) (k0 : Int → Option α) : Option α :=
  laws_heldIntS_L0 N N a1226 a1227 (0 : Int)
    (fun x1237 =>
      k0 x1237)
    (fun x1238 =>
      k0 x1238)
theorem laws_heldIntS.ex : ∃ f : ((α : Type) → Nat → List Int → Int → (Int → Option α) → Option α), f = fun α => @laws_heldIntS.b α := ⟨_, rfl⟩
noncomputable def laws_heldIntS {α : Type} : Nat → List Int → Int → (Int → Option α) → Option α := Classical.choose laws_heldIntS.ex α
theorem laws_heldIntS.eq : @laws_heldIntS = @laws_heldIntS.b := funext fun α => congrFun (Classical.choose_spec laws_heldIntS.ex) α

/-- loop.example/pinfold/laws.heldFrac -/
noncomputable def laws_heldFrac.b {α : Type} (N : Nat) (a1224 : Bool × (List Int) × (List Int) × Unit) (a1225 : Int) (k0 : Int → Option α) : Option α :=
  laws_heldIntS N a1224.2.1 a1225
    (fun x1239 =>
      let x1240 := (decide (x1239 < (0 : Int)))
      bif x1240 then
        k0 (-1 : Int)
      else
        laws_heldIntS N a1224.2.2.1 x1239
          (fun x1241 =>
            let x1242 := (decide (x1241 < (0 : Int)))
            bif x1242 then
              k0 (-1 : Int)
            else
              k0 x1241))
theorem laws_heldFrac.ex : ∃ f : ((α : Type) → Nat → (Bool × (List Int) × (List Int) × Unit) → Int → (Int → Option α) → Option α), f = fun α => @laws_heldFrac.b α := ⟨_, rfl⟩
noncomputable def laws_heldFrac {α : Type} : Nat → (Bool × (List Int) × (List Int) × Unit) → Int → (Int → Option α) → Option α := Classical.choose laws_heldFrac.ex α
theorem laws_heldFrac.eq : @laws_heldFrac = @laws_heldFrac.b := funext fun α => congrFun (Classical.choose_spec laws_heldFrac.ex) α

/-- loop.example/pinfold/laws.FnExactFracFloor -/
noncomputable def laws_FnExactFracFloor.b {α : Type} (N : Nat) (a1 : Bool × (List Int) × (List Int) × Unit) (k0 : Bool → Option α) : Option α :=
  laws_szFrac N a1 (1048576 : Int)
    (fun x13 =>
      let x14 := (decide (x13 < (0 : Int)))
      bif x14 then
        k0 true
      else
        laws_toFrac N a1
          (fun x31 x32 x33 =>
            spec_FracFloor N (x31, (x32, (x33, ())))
              (fun x451 x452 x453 x454 =>
                laws_toFrac N a1
                  (fun x455 x456 x457 =>
                    impl_FracFloor N (x455, (x456, (x457, ())))
                      (fun x1159 x1160 x1161 x1162 =>
                        laws_eqFrac N (x1159, (x1161, (x1162, ()))) (x451, (x453, (x454, ())))
                          (fun x1185 =>
                            let x1186 := !x1185
                            bif x1186 then
                              k0 false
                            else
                              let x1187 := !(x1160 == x452)
                              bif x1187 then
                                k0 false
                              else
                                laws_toFrac N a1
                                  (fun x1188 x1189 x1190 =>
                                    laws_eqFrac N (x455, (x456, (x457, ()))) (x1188, (x1189, (x1190, ())))
                                      (fun x1191 =>
                                        let x1192 := !x1191
                                        bif x1192 then
                                          k0 false
                                        else
                                          laws_markFrac N x455 (1 : Int) x456 x457
                                            (fun x1214 _ _ =>
                                              let x1217 := (decide (x1214 < (0 : Int)))
                                              bif x1217 then
                                                k0 false
                                              else
                                                laws_eqFrac N (x1159, (x1161, (x1162, ()))) (x451, (x453, (x454, ())))
                                                  (fun x1218 =>
                                                    let x1219 := !x1218
                                                    bif x1219 then
                                                      k0 false
                                                    else
                                                      let x1220 := !(x1160 == x452)
                                                      bif x1220 then
                                                        k0 false
                                                      else
                                                        laws_markFrac N x1159 (1 : Int) x1161 x1162
                                                          (fun x1221 x1222 x1223 =>
                                                            laws_heldFrac N (x1159, (x1222, (x1223, ()))) (1 : Int)
                                                              (fun x1243 =>
                                                                let x1244 := (decide (x1243 < (0 : Int)))
                                                                bif x1244 then
                                                                  k0 false
                                                                else
                                                                  let x1245 := !(decide (x1243 = x1221))
                                                                  bif x1245 then
                                                                    k0 false
                                                                  else
                                                                    laws_toFrac N a1
                                                                      (fun x1246 x1247 x1248 =>
                                                                        impl_FracFloor N (x1246, (x1247, (x1248, ())))
                                                                          (fun x1249 x1250 x1251 x1252 =>
                                                                            laws_eqFrac N (x1249, (x1251, (x1252, ()))) (x451, (x453, (x454, ())))
                                                                              (fun x1253 =>
                                                                                let x1254 := !x1253
                                                                                bif x1254 then
                                                                                  k0 false
                                                                                else
                                                                                  let x1255 := !(x1250 == x452)
                                                                                  bif x1255 then
                                                                                    k0 false
                                                                                  else
                                                                                    laws_heldFrac N (x1159, (x1222, (x1223, ()))) (1 : Int)
                                                                                      (fun x1256 =>
                                                                                        let x1257 := (decide (x1256 < (0 : Int)))
                                                                                        bif x1257 then
                                                                                          k0 false
                                                                                        else
                                                                                          let x1258 := !(decide (x1256 = x1221))
                                                                                          bif x1258 then
                                                                                            k0 false
                                                                                          else
                                                                                            k0 true))))))))))))))))
theorem laws_FnExactFracFloor.ex : ∃ f : ((α : Type) → Nat → (Bool × (List Int) × (List Int) × Unit) → (Bool → Option α) → Option α), f = fun α => @laws_FnExactFracFloor.b α := ⟨_, rfl⟩
noncomputable def laws_FnExactFracFloor {α : Type} : Nat → (Bool × (List Int) × (List Int) × Unit) → (Bool → Option α) → Option α := Classical.choose laws_FnExactFracFloor.ex α
theorem laws_FnExactFracFloor.eq : @laws_FnExactFracFloor = @laws_FnExactFracFloor.b := funext fun α => congrFun (Classical.choose_spec laws_FnExactFracFloor.ex) α

end
end Go.Proofs.YthjjaddhcdekjaaAm
