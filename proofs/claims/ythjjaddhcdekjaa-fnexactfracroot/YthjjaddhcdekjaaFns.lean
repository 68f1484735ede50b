/-
  The functions that the program computes, as the abstract machine tells them. Printed by amp.py.
-/
import Derived.Test.YthjjaddhcdekjaaAmb
namespace Go.Proofs.YthjjaddhcdekjaaAm
open Go
noncomputable section
set_option linter.unusedVariables false
set_option linter.unusedSimpArgs false

/-- loop.example/pinfold/laws.szIntS -/
noncomputable def laws_szIntS.b {α : Type} (N : Nat) (a4 : List Int) (a5 : Int) (k0 : Int → Option α) : Option α :=
  let x6 := ((a4.length : Nat) : Int)
  let x7 := IntKind.i64.wrap (a5 - x6)
  let x8 := (decide (x7 < (0 : Int)))
  bif x8 then
    k0 (-1 : Int)
  else
    k0 x7
theorem laws_szIntS.ex : ∃ f : ((α : Type) → Nat → List Int → Int → (Int → Option α) → Option α), f = fun α => @laws_szIntS.b α := ⟨_, rfl⟩
noncomputable def laws_szIntS {α : Type} : Nat → List Int → Int → (Int → Option α) → Option α := Classical.choose laws_szIntS.ex α
theorem laws_szIntS.eq : @laws_szIntS = @laws_szIntS.b := funext fun α => congrFun (Classical.choose_spec laws_szIntS.ex) α

/-- loop.example/pinfold/laws.szFrac -/
noncomputable def laws_szFrac.b {α : Type} (N : Nat) (a2 : Bool × (List Int) × (List Int) × Unit) (a3 : Int) (k0 : Int → Option α) : Option α :=
  laws_szIntS N a2.2.1 a3
    (fun x9 =>
      let x10 := (decide (x9 < (0 : Int)))
      bif x10 then
        k0 (-1 : Int)
      else
        laws_szIntS N a2.2.2.1 x9
          (fun x11 =>
            let x12 := (decide (x11 < (0 : Int)))
            bif x12 then
              k0 (-1 : Int)
            else
              k0 x11))
theorem laws_szFrac.ex : ∃ f : ((α : Type) → Nat → (Bool × (List Int) × (List Int) × Unit) → Int → (Int → Option α) → Option α), f = fun α => @laws_szFrac.b α := ⟨_, rfl⟩
noncomputable def laws_szFrac {α : Type} : Nat → (Bool × (List Int) × (List Int) × Unit) → Int → (Int → Option α) → Option α := Classical.choose laws_szFrac.ex α
theorem laws_szFrac.eq : @laws_szFrac = @laws_szFrac.b := funext fun α => congrFun (Classical.choose_spec laws_szFrac.ex) α

noncomputable def laws_toIntS_L0r {α : Type} (N : Nat) (next : List Int → Int → List Int → Option α) (k0 : List Int → Option α) (v19 : List Int) (v20 : Int) (v21 : List Int) : Option α :=
  let x22 := ((v19.length : Nat) : Int)
  let x23 := decide (v20 < x22)
  bif x23 then
    bif (decide (v20 < (0 : Int))) then
      none
    else
      match v19[v20.toNat]? with
      | some x24 =>
        bif (decide (v20 < (0 : Int))) then
          none
        else
          bif decide (v20.toNat < v21.length) then
            match v21[v20.toNat]? with
            | some x25 =>
              let x26 := v21.set v20.toNat x24
              let x27 := (IntKind.i64.wrap (v20 + (1 : Int)))
              next v19 x27 x26
            | none => none
          else
            none
      | none => none
  else
    k0 v21
noncomputable def laws_toIntS_L0.b {α : Type} (N n : Nat) (v19 : List Int) (v20 : Int) (v21 : List Int) (k0 : List Int → Option α) : Option α :=
  Nat.rec (motive := fun _ => List Int → Int → List Int → Option α) (fun _ _ _ => none) (fun _ next => laws_toIntS_L0r N next k0) n v19 v20 v21
theorem laws_toIntS_L0.ex : ∃ f : ((α : Type) → Nat → Nat → List Int → Int → List Int → (List Int → Option α) → Option α), f = fun α => @laws_toIntS_L0.b α := ⟨_, rfl⟩
noncomputable def laws_toIntS_L0 {α : Type} : Nat → Nat → List Int → Int → List Int → (List Int → Option α) → Option α := Classical.choose laws_toIntS_L0.ex α
theorem laws_toIntS_L0.eq : @laws_toIntS_L0 = @laws_toIntS_L0.b := funext fun α => congrFun (Classical.choose_spec laws_toIntS_L0.ex) α
theorem laws_toIntS_L0.zero {α : Type} (N : Nat) (v19 : List Int) (v20 : Int) (v21 : List Int) (k0 : List Int → Option α) : laws_toIntS_L0 N 0 v19 v20 v21 k0 = none := by rw [laws_toIntS_L0.eq]; rfl
theorem laws_toIntS_L0.succ {α : Type} (N n : Nat) (v19 : List Int) (v20 : Int) (v21 : List Int) (k0 : List Int → Option α) : laws_toIntS_L0 N (n + 1) v19 v20 v21 k0 = laws_toIntS_L0r N (fun y0 y1 y2 => laws_toIntS_L0 N n y0 y1 y2 k0) k0 v19 v20 v21 := by rw [laws_toIntS_L0.eq]; rfl
/-- loop.example/pinfold/laws.toIntS -/
noncomputable def laws_toIntS.b {α : Type} (N : Nat) (a16 : List Int) (k0 : List Int → Option α) : Option α :=
  let x17 := ((a16.length : Nat) : Int)
  bif (decide ((0 : Int) ≤ x17)) then
    bif decide (x17 ≤ x17) then
      bif (decide (x17 ≤ ((8796093022208 : Nat) : Int))) then
        let x18 := (List.replicate x17.toNat (0 : Int))
        laws_toIntS_L0 N N a16 (0 : Int) x18
          (fun x28 =>
            k0 x28)
      else
        none
    else
      none
  else
    none
theorem laws_toIntS.ex : ∃ f : ((α : Type) → Nat → List Int → (List Int → Option α) → Option α), f = fun α => @laws_toIntS.b α := ⟨_, rfl⟩
noncomputable def laws_toIntS {α : Type} : Nat → List Int → (List Int → Option α) → Option α := Classical.choose laws_toIntS.ex α
theorem laws_toIntS.eq : @laws_toIntS = @laws_toIntS.b := funext fun α => congrFun (Classical.choose_spec laws_toIntS.ex) α

/-- loop.example/pinfold/laws.toFrac -/
noncomputable def laws_toFrac.b {α : Type} (N : Nat) (a15 : Bool × (List Int) × (List Int) × Unit) (k0 : Bool → List Int → List Int → Option α) : Option α :=
  laws_toIntS N a15.2.1
    (fun x29 =>
      laws_toIntS N a15.2.2.1
        (fun x30 =>
          k0 a15.1 x29 x30))
theorem laws_toFrac.ex : ∃ f : ((α : Type) → Nat → (Bool × (List Int) × (List Int) × Unit) → (Bool → List Int → List Int → Option α) → Option α), f = fun α => @laws_toFrac.b α := ⟨_, rfl⟩
noncomputable def laws_toFrac {α : Type} : Nat → (Bool × (List Int) × (List Int) × Unit) → (Bool → List Int → List Int → Option α) → Option α := Classical.choose laws_toFrac.ex α
theorem laws_toFrac.eq : @laws_toFrac = @laws_toFrac.b := funext fun α => congrFun (Classical.choose_spec laws_toFrac.ex) α

noncomputable def spec_NatOk_L0r {α : Type} (N : Nat) (next : List Int → Int → Option α) (k0 : Bool → Option α) (k1 : List Int → Option α) (v39 : List Int) (v40 : Int) : Option α :=
  let x41 := ((v39.length : Nat) : Int)
  let x42 := decide (v40 < x41)
  bif x42 then
    bif (decide (v40 < (0 : Int))) then
      none
    else
      match v39[v40.toNat]? with
      | some x43 =>
        let x44 := (decide (x43 < (0 : Int)))
        bif x44 then
          k0 false
        else
          bif (decide (v40 < (0 : Int))) then
            none
          else
            match v39[v40.toNat]? with
            | some x45 =>
              let x46 := (decide ((65536 : Int) ≤ x45))
              bif x46 then
                k0 false
              else
                let x47 := (IntKind.i64.wrap (v40 + (1 : Int)))
                next v39 x47
            | none => none
      | none => none
  else
    k1 v39
noncomputable def spec_NatOk_L0.b {α : Type} (N n : Nat) (v39 : List Int) (v40 : Int) (k0 : Bool → Option α) (k1 : List Int → Option α) : Option α :=
  Nat.rec (motive := fun _ => List Int → Int → Option α) (fun _ _ => none) (fun _ next => spec_NatOk_L0r N next k0 k1) n v39 v40
theorem spec_NatOk_L0.ex : ∃ f : ((α : Type) → Nat → Nat → List Int → Int → (Bool → Option α) → (List Int → Option α) → Option α), f = fun α => @spec_NatOk_L0.b α := ⟨_, rfl⟩
noncomputable def spec_NatOk_L0 {α : Type} : Nat → Nat → List Int → Int → (Bool → Option α) → (List Int → Option α) → Option α := Classical.choose spec_NatOk_L0.ex α
theorem spec_NatOk_L0.eq : @spec_NatOk_L0 = @spec_NatOk_L0.b := funext fun α => congrFun (Classical.choose_spec spec_NatOk_L0.ex) α
theorem spec_NatOk_L0.zero {α : Type} (N : Nat) (v39 : List Int) (v40 : Int) (k0 : Bool → Option α) (k1 : List Int → Option α) : spec_NatOk_L0 N 0 v39 v40 k0 k1 = none := by rw [spec_NatOk_L0.eq]; rfl
theorem spec_NatOk_L0.succ {α : Type} (N n : Nat) (v39 : List Int) (v40 : Int) (k0 : Bool → Option α) (k1 : List Int → Option α) : spec_NatOk_L0 N (n + 1) v39 v40 k0 k1 = spec_NatOk_L0r N (fun y0 y1 => spec_NatOk_L0 N n y0 y1 k0 k1) k0 k1 v39 v40 := by rw [spec_NatOk_L0.eq]; rfl
/-- loop.example/pinfold/spec.NatOk -/
noncomputable def spec_NatOk.b {α : Type} (N : Nat) (a36 : List Int) (k0 : Bool → Option α) : Option α :=
  let x37 := ((a36.length : Nat) : Int)
  let x38 := (decide ((256 : Int) < x37))
  bif x38 then
    k0 false
  else
    spec_NatOk_L0 N N a36 (0 : Int)
      (fun x48 =>
        k0 x48)
      (fun x49 =>
        let x50 := ((x49.length : Nat) : Int)
        let x51 := (decide (x50 = (0 : Int)))
        bif x51 then
          k0 true
        else
          let x52 := ((x49.length : Nat) : Int)
          let x53 := (IntKind.i64.wrap (x52 - (1 : Int)))
          bif (decide (x53 < (0 : Int))) then
            none
          else
            match x49[x53.toNat]? with
            | some x54 =>
              let x55 := (!(decide (x54 = (0 : Int))))
              k0 x55
            | none => none)
theorem spec_NatOk.ex : ∃ f : ((α : Type) → Nat → List Int → (Bool → Option α) → Option α), f = fun α => @spec_NatOk.b α := ⟨_, rfl⟩
noncomputable def spec_NatOk {α : Type} : Nat → List Int → (Bool → Option α) → Option α := Classical.choose spec_NatOk.ex α
theorem spec_NatOk.eq : @spec_NatOk = @spec_NatOk.b := funext fun α => congrFun (Classical.choose_spec spec_NatOk.ex) α

noncomputable def spec_l5Trim_L0r {α : Type} (N : Nat) (next : List Int → Int → Option α) (k0 : List Int → Int → Option α) (v68 : List Int) (v69 : Int) : Option α :=
  let x70 := (decide ((0 : Int) < v69))
  bif x70 then
    let x71 := (IntKind.i64.wrap (v69 - (1 : Int)))
    bif (decide (x71 < (0 : Int))) then
      none
    else
      match v68[x71.toNat]? with
      | some x72 =>
        let x73 := (decide (x72 = (0 : Int)))
        bif x73 then
          let x74 := (IntKind.i64.wrap (v69 - (1 : Int)))
          next v68 x74
        else
          k0 v68 v69
      | none => none
  else
    k0 v68 v69
noncomputable def spec_l5Trim_L0.b {α : Type} (N n : Nat) (v68 : List Int) (v69 : Int) (k0 : List Int → Int → Option α) : Option α :=
  Nat.rec (motive := fun _ => List Int → Int → Option α) (fun _ _ => none) (fun _ next => spec_l5Trim_L0r N next k0) n v68 v69
theorem spec_l5Trim_L0.ex : ∃ f : ((α : Type) → Nat → Nat → List Int → Int → (List Int → Int → Option α) → Option α), f = fun α => @spec_l5Trim_L0.b α := ⟨_, rfl⟩
noncomputable def spec_l5Trim_L0 {α : Type} : Nat → Nat → List Int → Int → (List Int → Int → Option α) → Option α := Classical.choose spec_l5Trim_L0.ex α
theorem spec_l5Trim_L0.eq : @spec_l5Trim_L0 = @spec_l5Trim_L0.b := funext fun α => congrFun (Classical.choose_spec spec_l5Trim_L0.ex) α
theorem spec_l5Trim_L0.zero {α : Type} (N : Nat) (v68 : List Int) (v69 : Int) (k0 : List Int → Int → Option α) : spec_l5Trim_L0 N 0 v68 v69 k0 = none := by rw [spec_l5Trim_L0.eq]; rfl
theorem spec_l5Trim_L0.succ {α : Type} (N n : Nat) (v68 : List Int) (v69 : Int) (k0 : List Int → Int → Option α) : spec_l5Trim_L0 N (n + 1) v68 v69 k0 = spec_l5Trim_L0r N (fun y0 y1 => spec_l5Trim_L0 N n y0 y1 k0) k0 v68 v69 := by rw [spec_l5Trim_L0.eq]; rfl
noncomputable def spec_l5Trim_L2r {α : Type} (N : Nat) (next : List Int → Int → Int → List Int → Option α) (k0 : List Int → Option α) (v77 : List Int) (v78 : Int) (v79 : Int) (v80 : List Int) : Option α :=
  let x81 := decide (v79 < v78)
  bif x81 then
    bif (decide (v79 < (0 : Int))) then
      none
    else
      match v77[v79.toNat]? with
      | some x82 =>
        let x83 := [x82]
        bif decide (v80.length + x83.length ≤ 8796093022208) then
          let x84 := v80 ++ x83
          let x85 := (IntKind.i64.wrap (v79 + (1 : Int)))
          next v77 v78 x85 x84
        else
          none
      | none => none
  else
    k0 v80
noncomputable def spec_l5Trim_L2.b {α : Type} (N n : Nat) (v77 : List Int) (v78 : Int) (v79 : Int) (v80 : List Int) (k0 : List Int → Option α) : Option α :=
  Nat.rec (motive := fun _ => List Int → Int → Int → List Int → Option α) (fun _ _ _ _ => none) (fun _ next => spec_l5Trim_L2r N next k0) n v77 v78 v79 v80
theorem spec_l5Trim_L2.ex : ∃ f : ((α : Type) → Nat → Nat → List Int → Int → Int → List Int → (List Int → Option α) → Option α), f = fun α => @spec_l5Trim_L2.b α := ⟨_, rfl⟩
noncomputable def spec_l5Trim_L2 {α : Type} : Nat → Nat → List Int → Int → Int → List Int → (List Int → Option α) → Option α := Classical.choose spec_l5Trim_L2.ex α
theorem spec_l5Trim_L2.eq : @spec_l5Trim_L2 = @spec_l5Trim_L2.b := funext fun α => congrFun (Classical.choose_spec spec_l5Trim_L2.ex) α
theorem spec_l5Trim_L2.zero {α : Type} (N : Nat) (v77 : List Int) (v78 : Int) (v79 : Int) (v80 : List Int) (k0 : List Int → Option α) : spec_l5Trim_L2 N 0 v77 v78 v79 v80 k0 = none := by rw [spec_l5Trim_L2.eq]; rfl
theorem spec_l5Trim_L2.succ {α : Type} (N n : Nat) (v77 : List Int) (v78 : Int) (v79 : Int) (v80 : List Int) (k0 : List Int → Option α) : spec_l5Trim_L2 N (n + 1) v77 v78 v79 v80 k0 = spec_l5Trim_L2r N (fun y0 y1 y2 y3 => spec_l5Trim_L2 N n y0 y1 y2 y3 k0) k0 v77 v78 v79 v80 := by rw [spec_l5Trim_L2.eq]; rfl
/-- loop.example/pinfold/spec.l5Trim -/
noncomputable def spec_l5Trim.b {α : Type} (N : Nat) (a66 : List Int) (k0 : List Int → Option α) : Option α :=
  let x67 := ((a66.length : Nat) : Int)
  spec_l5Trim_L0 N N a66 x67
    (fun x75 x76 =>
      spec_l5Trim_L2 N N x75 x76 (0 : Int) []
        (fun x86 =>
          k0 x86))
theorem spec_l5Trim.ex : ∃ f : ((α : Type) → Nat → List Int → (List Int → Option α) → Option α), f = fun α => @spec_l5Trim.b α := ⟨_, rfl⟩
noncomputable def spec_l5Trim {α : Type} : Nat → List Int → (List Int → Option α) → Option α := Classical.choose spec_l5Trim.ex α
theorem spec_l5Trim.eq : @spec_l5Trim = @spec_l5Trim.b := funext fun α => congrFun (Classical.choose_spec spec_l5Trim.ex) α

noncomputable def spec_l5Cmp_L0r {α : Type} (N : Nat) (next : List Int → List Int → Int → Option α) (k0 : Int → Option α) (k1 : Option α) (v105 : List Int) (v106 : List Int) (v107 : Int) : Option α :=
  let x108 := (decide ((0 : Int) ≤ v107))
  bif x108 then
    bif (decide (v107 < (0 : Int))) then
      none
    else
      match v105[v107.toNat]? with
      | some x109 =>
        bif (decide (v107 < (0 : Int))) then
          none
        else
          match v106[v107.toNat]? with
          | some x110 =>
            let x111 := decide (x109 < x110)
            bif x111 then
              k0 (-1 : Int)
            else
              bif (decide (v107 < (0 : Int))) then
                none
              else
                match v105[v107.toNat]? with
                | some x112 =>
                  bif (decide (v107 < (0 : Int))) then
                    none
                  else
                    match v106[v107.toNat]? with
                    | some x113 =>
                      let x114 := decide (x113 < x112)
                      bif x114 then
                        k0 (1 : Int)
                      else
                        let x115 := (IntKind.i64.wrap (v107 - (1 : Int)))
                        next v105 v106 x115
                    | none => none
                | none => none
          | none => none
      | none => none
  else
    k1
noncomputable def spec_l5Cmp_L0.b {α : Type} (N n : Nat) (v105 : List Int) (v106 : List Int) (v107 : Int) (k0 : Int → Option α) (k1 : Option α) : Option α :=
  Nat.rec (motive := fun _ => List Int → List Int → Int → Option α) (fun _ _ _ => none) (fun _ next => spec_l5Cmp_L0r N next k0 k1) n v105 v106 v107
theorem spec_l5Cmp_L0.ex : ∃ f : ((α : Type) → Nat → Nat → List Int → List Int → Int → (Int → Option α) → (Option α) → Option α), f = fun α => @spec_l5Cmp_L0.b α := ⟨_, rfl⟩
noncomputable def spec_l5Cmp_L0 {α : Type} : Nat → Nat → List Int → List Int → Int → (Int → Option α) → (Option α) → Option α := Classical.choose spec_l5Cmp_L0.ex α
theorem spec_l5Cmp_L0.eq : @spec_l5Cmp_L0 = @spec_l5Cmp_L0.b := funext fun α => congrFun (Classical.choose_spec spec_l5Cmp_L0.ex) α
theorem spec_l5Cmp_L0.zero {α : Type} (N : Nat) (v105 : List Int) (v106 : List Int) (v107 : Int) (k0 : Int → Option α) (k1 : Option α) : spec_l5Cmp_L0 N 0 v105 v106 v107 k0 k1 = none := by rw [spec_l5Cmp_L0.eq]; rfl
theorem spec_l5Cmp_L0.succ {α : Type} (N n : Nat) (v105 : List Int) (v106 : List Int) (v107 : Int) (k0 : Int → Option α) (k1 : Option α) : spec_l5Cmp_L0 N (n + 1) v105 v106 v107 k0 k1 = spec_l5Cmp_L0r N (fun y0 y1 y2 => spec_l5Cmp_L0 N n y0 y1 y2 k0 k1) k0 k1 v105 v106 v107 := by rw [spec_l5Cmp_L0.eq]; rfl
/-- loop.example/pinfold/spec.l5Cmp -/
noncomputable def spec_l5Cmp.b {α : Type} (N : Nat) (a95 : List Int) (a96 : List Int) (k0 : Int → Option α) : Option α :=
  let x97 := ((a95.length : Nat) : Int)
  let x98 := ((a96.length : Nat) : Int)
  let x99 := decide (x97 < x98)
  bif x99 then
    k0 (-1 : Int)
  else
    let x100 := ((a95.length : Nat) : Int)
    let x101 := ((a96.length : Nat) : Int)
    let x102 := decide (x101 < x100)
    bif x102 then
      k0 (1 : Int)
    else
      let x103 := ((a95.length : Nat) : Int)
      let x104 := (IntKind.i64.wrap (x103 - (1 : Int)))
      spec_l5Cmp_L0 N N a95 a96 x104
        (fun x116 =>
          k0 x116)
        (
          k0 (0 : Int))
theorem spec_l5Cmp.ex : ∃ f : ((α : Type) → Nat → List Int → List Int → (Int → Option α) → Option α), f = fun α => @spec_l5Cmp.b α := ⟨_, rfl⟩
noncomputable def spec_l5Cmp {α : Type} : Nat → List Int → List Int → (Int → Option α) → Option α := Classical.choose spec_l5Cmp.ex α
theorem spec_l5Cmp.eq : @spec_l5Cmp = @spec_l5Cmp.b := funext fun α => congrFun (Classical.choose_spec spec_l5Cmp.ex) α

noncomputable def spec_l5DivSmall_L0r {α : Type} (N : Nat) (next : List Int → Int → Int → Int → List Int → Option α) (k0 : Int → List Int → Option α) (v129 : List Int) (v130 : Int) (v131 : Int) (v132 : Int) (v133 : List Int) : Option α :=
  let x134 := (decide ((0 : Int) ≤ v132))
  bif x134 then
    let x135 := (IntKind.i64.wrap (v131 * (65536 : Int)))
    bif (decide (v132 < (0 : Int))) then
      none
    else
      match v129[v132.toNat]? with
      | some x136 =>
        let x137 := IntKind.i64.wrap (x135 + x136)
        bif (decide (v130 = (0 : Int))) then
          none
        else
          let x138 := IntKind.i64.wrap (Int.tdiv x137 v130)
          bif (decide (v132 < (0 : Int))) then
            none
          else
            bif decide (v132.toNat < v133.length) then
              match v133[v132.toNat]? with
              | some x139 =>
                let x140 := v133.set v132.toNat x138
                bif (decide (v130 = (0 : Int))) then
                  none
                else
                  let x141 := Int.tmod x137 v130
                  let x142 := (IntKind.i64.wrap (v132 - (1 : Int)))
                  next v129 v130 x141 x142 x140
              | none => none
            else
              none
      | none => none
  else
    k0 v131 v133
noncomputable def spec_l5DivSmall_L0.b {α : Type} (N n : Nat) (v129 : List Int) (v130 : Int) (v131 : Int) (v132 : Int) (v133 : List Int) (k0 : Int → List Int → Option α) : Option α :=
  Nat.rec (motive := fun _ => List Int → Int → Int → Int → List Int → Option α) (fun _ _ _ _ _ => none) (fun _ next => spec_l5DivSmall_L0r N next k0) n v129 v130 v131 v132 v133
theorem spec_l5DivSmall_L0.ex : ∃ f : ((α : Type) → Nat → Nat → List Int → Int → Int → Int → List Int → (Int → List Int → Option α) → Option α), f = fun α => @spec_l5DivSmall_L0.b α := ⟨_, rfl⟩
noncomputable def spec_l5DivSmall_L0 {α : Type} : Nat → Nat → List Int → Int → Int → Int → List Int → (Int → List Int → Option α) → Option α := Classical.choose spec_l5DivSmall_L0.ex α
theorem spec_l5DivSmall_L0.eq : @spec_l5DivSmall_L0 = @spec_l5DivSmall_L0.b := funext fun α => congrFun (Classical.choose_spec spec_l5DivSmall_L0.ex) α
theorem spec_l5DivSmall_L0.zero {α : Type} (N : Nat) (v129 : List Int) (v130 : Int) (v131 : Int) (v132 : Int) (v133 : List Int) (k0 : Int → List Int → Option α) : spec_l5DivSmall_L0 N 0 v129 v130 v131 v132 v133 k0 = none := by rw [spec_l5DivSmall_L0.eq]; rfl
theorem spec_l5DivSmall_L0.succ {α : Type} (N n : Nat) (v129 : List Int) (v130 : Int) (v131 : Int) (v132 : Int) (v133 : List Int) (k0 : Int → List Int → Option α) : spec_l5DivSmall_L0 N (n + 1) v129 v130 v131 v132 v133 k0 = spec_l5DivSmall_L0r N (fun y0 y1 y2 y3 y4 => spec_l5DivSmall_L0 N n y0 y1 y2 y3 y4 k0) k0 v129 v130 v131 v132 v133 := by rw [spec_l5DivSmall_L0.eq]; rfl
/-- loop.example/pinfold/spec.l5DivSmall -/
noncomputable def spec_l5DivSmall.b {α : Type} (N : Nat) (a123 : List Int) (a124 : Int) (k0 : Int → List Int → Option α) : Option α :=
  let x125 := ((a123.length : Nat) : Int)
  bif (decide ((0 : Int) ≤ x125)) then
    bif decide (x125 ≤ x125) then
      bif (decide (x125 ≤ ((8796093022208 : Nat) : Int))) then
        let x126 := (List.replicate x125.toNat (0 : Int))
        let x127 := ((a123.length : Nat) : Int)
        let x128 := (IntKind.i64.wrap (x127 - (1 : Int)))
        spec_l5DivSmall_L0 N N a123 a124 (0 : Int) x128 x126
          (fun x143 x144 =>
            spec_l5Trim N x144
              (fun x145 =>
                k0 x143 x145))
      else
        none
    else
      none
  else
    none
theorem spec_l5DivSmall.ex : ∃ f : ((α : Type) → Nat → List Int → Int → (Int → List Int → Option α) → Option α), f = fun α => @spec_l5DivSmall.b α := ⟨_, rfl⟩
noncomputable def spec_l5DivSmall {α : Type} : Nat → List Int → Int → (Int → List Int → Option α) → Option α := Classical.choose spec_l5DivSmall.ex α
theorem spec_l5DivSmall.eq : @spec_l5DivSmall = @spec_l5DivSmall.b := funext fun α => congrFun (Classical.choose_spec spec_l5DivSmall.ex) α

noncomputable def spec_NatOf_L0r {α : Type} (N : Nat) (next : Int → List Int → Option α) (k0 : List Int → Option α) (v150 : Int) (v151 : List Int) : Option α :=
  let x152 := (decide ((0 : Int) < v150))
  bif x152 then
    let x153 := (Int.tmod v150 (65536 : Int))
    let x154 := IntKind.i64.wrap x153
    let x155 := [x154]
    bif decide (v151.length + x155.length ≤ 8796093022208) then
      let x156 := v151 ++ x155
      let x157 := (IntKind.u64.wrap (Int.tdiv v150 (65536 : Int)))
      next x157 x156
    else
      none
  else
    k0 v151
noncomputable def spec_NatOf_L0.b {α : Type} (N n : Nat) (v150 : Int) (v151 : List Int) (k0 : List Int → Option α) : Option α :=
  Nat.rec (motive := fun _ => Int → List Int → Option α) (fun _ _ => none) (fun _ next => spec_NatOf_L0r N next k0) n v150 v151
theorem spec_NatOf_L0.ex : ∃ f : ((α : Type) → Nat → Nat → Int → List Int → (List Int → Option α) → Option α), f = fun α => @spec_NatOf_L0.b α := ⟨_, rfl⟩
noncomputable def spec_NatOf_L0 {α : Type} : Nat → Nat → Int → List Int → (List Int → Option α) → Option α := Classical.choose spec_NatOf_L0.ex α
theorem spec_NatOf_L0.eq : @spec_NatOf_L0 = @spec_NatOf_L0.b := funext fun α => congrFun (Classical.choose_spec spec_NatOf_L0.ex) α
theorem spec_NatOf_L0.zero {α : Type} (N : Nat) (v150 : Int) (v151 : List Int) (k0 : List Int → Option α) : spec_NatOf_L0 N 0 v150 v151 k0 = none := by rw [spec_NatOf_L0.eq]; rfl
theorem spec_NatOf_L0.succ {α : Type} (N n : Nat) (v150 : Int) (v151 : List Int) (k0 : List Int → Option α) : spec_NatOf_L0 N (n + 1) v150 v151 k0 = spec_NatOf_L0r N (fun y0 y1 => spec_NatOf_L0 N n y0 y1 k0) k0 v150 v151 := by rw [spec_NatOf_L0.eq]; rfl
/-- loop.example/pinfold/spec.NatOf -/
noncomputable def spec_NatOf.b {α : Type} (N : Nat) (a149 : Int) (k0 : List Int → Option α) : Option α :=
  spec_NatOf_L0 N N a149 []
    (fun x158 =>
      k0 x158)
theorem spec_NatOf.ex : ∃ f : ((α : Type) → Nat → Int → (List Int → Option α) → Option α), f = fun α => @spec_NatOf.b α := ⟨_, rfl⟩
noncomputable def spec_NatOf {α : Type} : Nat → Int → (List Int → Option α) → Option α := Classical.choose spec_NatOf.ex α
theorem spec_NatOf.eq : @spec_NatOf = @spec_NatOf.b := funext fun α => congrFun (Classical.choose_spec spec_NatOf.ex) α

noncomputable def spec_l5Mul_L2r {α : Type} (N : Nat) (next : List Int → List Int → Int → Int → Int → List Int → Option α) (k0 : List Int → List Int → Int → Int → List Int → Option α) (v181 : List Int) (v182 : List Int) (v183 : Int) (v184 : Int) (v185 : Int) (v186 : List Int) : Option α :=
  let x187 := ((v182.length : Nat) : Int)
  let x188 := decide (v185 < x187)
  bif x188 then
    let x189 := IntKind.i64.wrap (v183 + v185)
    bif (decide (x189 < (0 : Int))) then
      none
    else
      bif decide (x189.toNat < v186.length) then
        match v186[x189.toNat]? with
        | some x190 =>
          bif (decide (v183 < (0 : Int))) then
            none
          else
            match v181[v183.toNat]? with
            | some x191 =>
              bif (decide (v185 < (0 : Int))) then
                none
              else
                match v182[v185.toNat]? with
                | some x192 =>
                  let x193 := IntKind.i64.wrap (x191 * x192)
                  let x194 := IntKind.i64.wrap (x190 + x193)
                  let x195 := IntKind.i64.wrap (x194 + v184)
                  let x196 := IntKind.i64.wrap (v183 + v185)
                  let x197 := (Int.tmod x195 (65536 : Int))
                  bif (decide (x196 < (0 : Int))) then
                    none
                  else
                    bif decide (x196.toNat < v186.length) then
                      match v186[x196.toNat]? with
                      | some x198 =>
                        let x199 := v186.set x196.toNat x197
                        let x200 := (IntKind.i64.wrap (Int.tdiv x195 (65536 : Int)))
                        let x201 := (IntKind.i64.wrap (v185 + (1 : Int)))
                        next v181 v182 v183 x200 x201 x199
                      | none => none
                    else
                      none
                | none => none
            | none => none
        | none => none
      else
        none
  else
    k0 v181 v182 v183 v184 v186
noncomputable def spec_l5Mul_L2.b {α : Type} (N n : Nat) (v181 : List Int) (v182 : List Int) (v183 : Int) (v184 : Int) (v185 : Int) (v186 : List Int) (k0 : List Int → List Int → Int → Int → List Int → Option α) : Option α :=
  Nat.rec (motive := fun _ => List Int → List Int → Int → Int → Int → List Int → Option α) (fun _ _ _ _ _ _ => none) (fun _ next => spec_l5Mul_L2r N next k0) n v181 v182 v183 v184 v185 v186
theorem spec_l5Mul_L2.ex : ∃ f : ((α : Type) → Nat → Nat → List Int → List Int → Int → Int → Int → List Int → (List Int → List Int → Int → Int → List Int → Option α) → Option α), f = fun α => @spec_l5Mul_L2.b α := ⟨_, rfl⟩
noncomputable def spec_l5Mul_L2 {α : Type} : Nat → Nat → List Int → List Int → Int → Int → Int → List Int → (List Int → List Int → Int → Int → List Int → Option α) → Option α := Classical.choose spec_l5Mul_L2.ex α
theorem spec_l5Mul_L2.eq : @spec_l5Mul_L2 = @spec_l5Mul_L2.b := funext fun α => congrFun (Classical.choose_spec spec_l5Mul_L2.ex) α
theorem spec_l5Mul_L2.zero {α : Type} (N : Nat) (v181 : List Int) (v182 : List Int) (v183 : Int) (v184 : Int) (v185 : Int) (v186 : List Int) (k0 : List Int → List Int → Int → Int → List Int → Option α) : spec_l5Mul_L2 N 0 v181 v182 v183 v184 v185 v186 k0 = none := by rw [spec_l5Mul_L2.eq]; rfl
theorem spec_l5Mul_L2.succ {α : Type} (N n : Nat) (v181 : List Int) (v182 : List Int) (v183 : Int) (v184 : Int) (v185 : Int) (v186 : List Int) (k0 : List Int → List Int → Int → Int → List Int → Option α) : spec_l5Mul_L2 N (n + 1) v181 v182 v183 v184 v185 v186 k0 = spec_l5Mul_L2r N (fun y0 y1 y2 y3 y4 y5 => spec_l5Mul_L2 N n y0 y1 y2 y3 y4 y5 k0) k0 v181 v182 v183 v184 v185 v186 := by rw [spec_l5Mul_L2.eq]; rfl
noncomputable def spec_l5Mul_L0r {α : Type} (N : Nat) (next : List Int → List Int → Int → List Int → Option α) (k0 : List Int → Option α) (v175 : List Int) (v176 : List Int) (v177 : Int) (v178 : List Int) : Option α :=
  let x179 := ((v175.length : Nat) : Int)
  let x180 := decide (v177 < x179)
  bif x180 then
    spec_l5Mul_L2 N N v175 v176 v177 (0 : Int) (0 : Int) v178
      (fun x202 x203 x204 x205 x206 =>
        let x207 := ((x203.length : Nat) : Int)
        let x208 := IntKind.i64.wrap (x204 + x207)
        bif (decide (x208 < (0 : Int))) then
          none
        else
          bif decide (x208.toNat < x206.length) then
            match x206[x208.toNat]? with
            | some x209 =>
              let x210 := x206.set x208.toNat x205
              let x211 := (IntKind.i64.wrap (x204 + (1 : Int)))
              next x202 x203 x211 x210
            | none => none
          else
            none)
  else
    k0 v178
noncomputable def spec_l5Mul_L0.b {α : Type} (N n : Nat) (v175 : List Int) (v176 : List Int) (v177 : Int) (v178 : List Int) (k0 : List Int → Option α) : Option α :=
  Nat.rec (motive := fun _ => List Int → List Int → Int → List Int → Option α) (fun _ _ _ _ => none) (fun _ next => spec_l5Mul_L0r N next k0) n v175 v176 v177 v178
theorem spec_l5Mul_L0.ex : ∃ f : ((α : Type) → Nat → Nat → List Int → List Int → Int → List Int → (List Int → Option α) → Option α), f = fun α => @spec_l5Mul_L0.b α := ⟨_, rfl⟩
noncomputable def spec_l5Mul_L0 {α : Type} : Nat → Nat → List Int → List Int → Int → List Int → (List Int → Option α) → Option α := Classical.choose spec_l5Mul_L0.ex α
theorem spec_l5Mul_L0.eq : @spec_l5Mul_L0 = @spec_l5Mul_L0.b := funext fun α => congrFun (Classical.choose_spec spec_l5Mul_L0.ex) α
theorem spec_l5Mul_L0.zero {α : Type} (N : Nat) (v175 : List Int) (v176 : List Int) (v177 : Int) (v178 : List Int) (k0 : List Int → Option α) : spec_l5Mul_L0 N 0 v175 v176 v177 v178 k0 = none := by rw [spec_l5Mul_L0.eq]; rfl
theorem spec_l5Mul_L0.succ {α : Type} (N n : Nat) (v175 : List Int) (v176 : List Int) (v177 : Int) (v178 : List Int) (k0 : List Int → Option α) : spec_l5Mul_L0 N (n + 1) v175 v176 v177 v178 k0 = spec_l5Mul_L0r N (fun y0 y1 y2 y3 => spec_l5Mul_L0 N n y0 y1 y2 y3 k0) k0 v175 v176 v177 v178 := by rw [spec_l5Mul_L0.eq]; rfl
/-- loop.example/pinfold/spec.l5Mul -/
noncomputable def spec_l5Mul.b {α : Type} (N : Nat) (a169 : List Int) (a170 : List Int) (k0 : List Int → Option α) : Option α :=
  let x171 := ((a169.length : Nat) : Int)
  let x172 := ((a170.length : Nat) : Int)
  let x173 := IntKind.i64.wrap (x171 + x172)
  bif (decide ((0 : Int) ≤ x173)) then
    bif decide (x173 ≤ x173) then
      bif (decide (x173 ≤ ((8796093022208 : Nat) : Int))) then
        let x174 := (List.replicate x173.toNat (0 : Int))
        spec_l5Mul_L0 N N a169 a170 (0 : Int) x174
          (fun x212 =>
            spec_l5Trim N x212
              (fun x213 =>
                k0 x213))
      else
        none
    else
      none
  else
    none
theorem spec_l5Mul.ex : ∃ f : ((α : Type) → Nat → List Int → List Int → (List Int → Option α) → Option α), f = fun α => @spec_l5Mul.b α := ⟨_, rfl⟩
noncomputable def spec_l5Mul {α : Type} : Nat → List Int → List Int → (List Int → Option α) → Option α := Classical.choose spec_l5Mul.ex α
theorem spec_l5Mul.eq : @spec_l5Mul = @spec_l5Mul.b := funext fun α => congrFun (Classical.choose_spec spec_l5Mul.ex) α

/-- loop.example/pinfold/spec.l5Times -/
noncomputable def spec_l5Times.b {α : Type} (N : Nat) (a165 : List Int) (a166 : Int) (k0 : List Int → Option α) : Option α :=
  let x167 := (decide (a166 = (0 : Int)))
  bif x167 then
    k0 []
  else
    let x168 := [a166]
    spec_l5Mul N a165 x168
      (fun x214 =>
        k0 x214)
theorem spec_l5Times.ex : ∃ f : ((α : Type) → Nat → List Int → Int → (List Int → Option α) → Option α), f = fun α => @spec_l5Times.b α := ⟨_, rfl⟩
noncomputable def spec_l5Times {α : Type} : Nat → List Int → Int → (List Int → Option α) → Option α := Classical.choose spec_l5Times.ex α
theorem spec_l5Times.eq : @spec_l5Times = @spec_l5Times.b := funext fun α => congrFun (Classical.choose_spec spec_l5Times.ex) α

noncomputable def spec_l5Top_L0r {α : Type} (N : Nat) (next : List Int → Int → List Int → Option α) (k0 : List Int → Option α) (v227 : List Int) (v228 : Int) (v229 : List Int) : Option α :=
  let x230 := ((v227.length : Nat) : Int)
  let x231 := decide (v228 < x230)
  bif x231 then
    bif (decide (v228 < (0 : Int))) then
      none
    else
      match v227[v228.toNat]? with
      | some x232 =>
        let x233 := [x232]
        bif decide (v229.length + x233.length ≤ 8796093022208) then
          let x234 := v229 ++ x233
          let x235 := (IntKind.i64.wrap (v228 + (1 : Int)))
          next v227 x235 x234
        else
          none
      | none => none
  else
    k0 v229
noncomputable def spec_l5Top_L0.b {α : Type} (N n : Nat) (v227 : List Int) (v228 : Int) (v229 : List Int) (k0 : List Int → Option α) : Option α :=
  Nat.rec (motive := fun _ => List Int → Int → List Int → Option α) (fun _ _ _ => none) (fun _ next => spec_l5Top_L0r N next k0) n v227 v228 v229
theorem spec_l5Top_L0.ex : ∃ f : ((α : Type) → Nat → Nat → List Int → Int → List Int → (List Int → Option α) → Option α), f = fun α => @spec_l5Top_L0.b α := ⟨_, rfl⟩
noncomputable def spec_l5Top_L0 {α : Type} : Nat → Nat → List Int → Int → List Int → (List Int → Option α) → Option α := Classical.choose spec_l5Top_L0.ex α
theorem spec_l5Top_L0.eq : @spec_l5Top_L0 = @spec_l5Top_L0.b := funext fun α => congrFun (Classical.choose_spec spec_l5Top_L0.ex) α
theorem spec_l5Top_L0.zero {α : Type} (N : Nat) (v227 : List Int) (v228 : Int) (v229 : List Int) (k0 : List Int → Option α) : spec_l5Top_L0 N 0 v227 v228 v229 k0 = none := by rw [spec_l5Top_L0.eq]; rfl
theorem spec_l5Top_L0.succ {α : Type} (N n : Nat) (v227 : List Int) (v228 : Int) (v229 : List Int) (k0 : List Int → Option α) : spec_l5Top_L0 N (n + 1) v227 v228 v229 k0 = spec_l5Top_L0r N (fun y0 y1 y2 => spec_l5Top_L0 N n y0 y1 y2 k0) k0 v227 v228 v229 := by rw [spec_l5Top_L0.eq]; rfl
/-- loop.example/pinfold/spec.l5Top -/
noncomputable def spec_l5Top.b {α : Type} (N : Nat) (a225 : List Int) (a226 : Int) (k0 : List Int → Option α) : Option α :=
  spec_l5Top_L0 N N a225 a226 []
    (fun x236 =>
      k0 x236)
theorem spec_l5Top.ex : ∃ f : ((α : Type) → Nat → List Int → Int → (List Int → Option α) → Option α), f = fun α => @spec_l5Top.b α := ⟨_, rfl⟩
noncomputable def spec_l5Top {α : Type} : Nat → List Int → Int → (List Int → Option α) → Option α := Classical.choose spec_l5Top.ex α
theorem spec_l5Top.eq : @spec_l5Top = @spec_l5Top.b := funext fun α => congrFun (Classical.choose_spec spec_l5Top.ex) α

noncomputable def spec_l5Shl_L0r {α : Type} (N : Nat) (next : List Int → Int → List Int → Option α) (k0 : List Int → Option α) (v253 : List Int) (v254 : Int) (v255 : List Int) : Option α :=
  let x256 := ((v253.length : Nat) : Int)
  let x257 := decide (v254 < x256)
  bif x257 then
    bif (decide (v254 < (0 : Int))) then
      none
    else
      match v253[v254.toNat]? with
      | some x258 =>
        let x259 := [x258]
        bif decide (v255.length + x259.length ≤ 8796093022208) then
          let x260 := v255 ++ x259
          let x261 := (IntKind.i64.wrap (v254 + (1 : Int)))
          next v253 x261 x260
        else
          none
      | none => none
  else
    k0 v255
noncomputable def spec_l5Shl_L0.b {α : Type} (N n : Nat) (v253 : List Int) (v254 : Int) (v255 : List Int) (k0 : List Int → Option α) : Option α :=
  Nat.rec (motive := fun _ => List Int → Int → List Int → Option α) (fun _ _ _ => none) (fun _ next => spec_l5Shl_L0r N next k0) n v253 v254 v255
theorem spec_l5Shl_L0.ex : ∃ f : ((α : Type) → Nat → Nat → List Int → Int → List Int → (List Int → Option α) → Option α), f = fun α => @spec_l5Shl_L0.b α := ⟨_, rfl⟩
noncomputable def spec_l5Shl_L0 {α : Type} : Nat → Nat → List Int → Int → List Int → (List Int → Option α) → Option α := Classical.choose spec_l5Shl_L0.ex α
theorem spec_l5Shl_L0.eq : @spec_l5Shl_L0 = @spec_l5Shl_L0.b := funext fun α => congrFun (Classical.choose_spec spec_l5Shl_L0.ex) α
theorem spec_l5Shl_L0.zero {α : Type} (N : Nat) (v253 : List Int) (v254 : Int) (v255 : List Int) (k0 : List Int → Option α) : spec_l5Shl_L0 N 0 v253 v254 v255 k0 = none := by rw [spec_l5Shl_L0.eq]; rfl
theorem spec_l5Shl_L0.succ {α : Type} (N n : Nat) (v253 : List Int) (v254 : Int) (v255 : List Int) (k0 : List Int → Option α) : spec_l5Shl_L0 N (n + 1) v253 v254 v255 k0 = spec_l5Shl_L0r N (fun y0 y1 y2 => spec_l5Shl_L0 N n y0 y1 y2 k0) k0 v253 v254 v255 := by rw [spec_l5Shl_L0.eq]; rfl
/-- loop.example/pinfold/spec.l5Shl -/
noncomputable def spec_l5Shl.b {α : Type} (N : Nat) (a248 : List Int) (a249 : Int) (k0 : List Int → Option α) : Option α :=
  let x250 := ((a248.length : Nat) : Int)
  let x251 := (decide (x250 = (0 : Int)))
  bif x251 then
    k0 []
  else
    bif (decide ((0 : Int) ≤ a249)) then
      bif decide (a249 ≤ a249) then
        bif (decide (a249 ≤ ((8796093022208 : Nat) : Int))) then
          let x252 := (List.replicate a249.toNat (0 : Int))
          spec_l5Shl_L0 N N a248 (0 : Int) x252
            (fun x262 =>
              k0 x262)
        else
          none
      else
        none
    else
      none
theorem spec_l5Shl.ex : ∃ f : ((α : Type) → Nat → List Int → Int → (List Int → Option α) → Option α), f = fun α => @spec_l5Shl.b α := ⟨_, rfl⟩
noncomputable def spec_l5Shl {α : Type} : Nat → List Int → Int → (List Int → Option α) → Option α := Classical.choose spec_l5Shl.ex α
theorem spec_l5Shl.eq : @spec_l5Shl = @spec_l5Shl.b := funext fun α => congrFun (Classical.choose_spec spec_l5Shl.ex) α

/-- loop.example/pinfold/spec.l5At -/
noncomputable def spec_l5At.b {α : Type} (N : Nat) (a286 : List Int) (a287 : Int) (k0 : Int → Option α) : Option α :=
  let x288 := ((a286.length : Nat) : Int)
  let x289 := decide (a287 < x288)
  bif x289 then
    bif (decide (a287 < (0 : Int))) then
      none
    else
      match a286[a287.toNat]? with
      | some x290 =>
        k0 x290
      | none => none
  else
    k0 (0 : Int)
theorem spec_l5At.ex : ∃ f : ((α : Type) → Nat → List Int → Int → (Int → Option α) → Option α), f = fun α => @spec_l5At.b α := ⟨_, rfl⟩
noncomputable def spec_l5At {α : Type} : Nat → List Int → Int → (Int → Option α) → Option α := Classical.choose spec_l5At.ex α
theorem spec_l5At.eq : @spec_l5At = @spec_l5At.b := funext fun α => congrFun (Classical.choose_spec spec_l5At.ex) α

noncomputable def spec_l5Add_J2.b {α : Type} (N : Nat) (v270 : List Int) (v271 : List Int) (v272 : Int) (k0 : List Int → List Int → Int → Option α) : Option α :=
  let x273 := ((v271.length : Nat) : Int)
  let x274 := decide (v272 < x273)
  bif x274 then
    let x275 := ((v271.length : Nat) : Int)
    k0 v270 v271 x275
  else
    k0 v270 v271 v272
theorem spec_l5Add_J2.ex : ∃ f : ((α : Type) → Nat → List Int → List Int → Int → (List Int → List Int → Int → Option α) → Option α), f = fun α => @spec_l5Add_J2.b α := ⟨_, rfl⟩
noncomputable def spec_l5Add_J2 {α : Type} : Nat → List Int → List Int → Int → (List Int → List Int → Int → Option α) → Option α := Classical.choose spec_l5Add_J2.ex α
theorem spec_l5Add_J2.eq : @spec_l5Add_J2 = @spec_l5Add_J2.b := funext fun α => congrFun (Classical.choose_spec spec_l5Add_J2.ex) α
noncomputable def spec_l5Add_L0r {α : Type} (N : Nat) (next : List Int → List Int → Int → Int → Int → List Int → Option α) (k0 : Int → List Int → Option α) (v279 : List Int) (v280 : List Int) (v281 : Int) (v282 : Int) (v283 : Int) (v284 : List Int) : Option α :=
  let x285 := decide (v283 < v281)
  bif x285 then
    spec_l5At N v279 v283
      (fun x291 =>
        spec_l5At N v280 v283
          (fun x292 =>
            let x293 := IntKind.i64.wrap (x291 + x292)
            let x294 := IntKind.i64.wrap (x293 + v282)
            let x295 := (Int.tmod x294 (65536 : Int))
            let x296 := [x295]
            bif decide (v284.length + x296.length ≤ 8796093022208) then
              let x297 := v284 ++ x296
              let x298 := (IntKind.i64.wrap (Int.tdiv x294 (65536 : Int)))
              let x299 := (IntKind.i64.wrap (v283 + (1 : Int)))
              next v279 v280 v281 x298 x299 x297
            else
              none))
  else
    k0 v282 v284
noncomputable def spec_l5Add_L0.b {α : Type} (N n : Nat) (v279 : List Int) (v280 : List Int) (v281 : Int) (v282 : Int) (v283 : Int) (v284 : List Int) (k0 : Int → List Int → Option α) : Option α :=
  Nat.rec (motive := fun _ => List Int → List Int → Int → Int → Int → List Int → Option α) (fun _ _ _ _ _ _ => none) (fun _ next => spec_l5Add_L0r N next k0) n v279 v280 v281 v282 v283 v284
theorem spec_l5Add_L0.ex : ∃ f : ((α : Type) → Nat → Nat → List Int → List Int → Int → Int → Int → List Int → (Int → List Int → Option α) → Option α), f = fun α => @spec_l5Add_L0.b α := ⟨_, rfl⟩
noncomputable def spec_l5Add_L0 {α : Type} : Nat → Nat → List Int → List Int → Int → Int → Int → List Int → (Int → List Int → Option α) → Option α := Classical.choose spec_l5Add_L0.ex α
theorem spec_l5Add_L0.eq : @spec_l5Add_L0 = @spec_l5Add_L0.b := funext fun α => congrFun (Classical.choose_spec spec_l5Add_L0.ex) α
theorem spec_l5Add_L0.zero {α : Type} (N : Nat) (v279 : List Int) (v280 : List Int) (v281 : Int) (v282 : Int) (v283 : Int) (v284 : List Int) (k0 : Int → List Int → Option α) : spec_l5Add_L0 N 0 v279 v280 v281 v282 v283 v284 k0 = none := by rw [spec_l5Add_L0.eq]; rfl
theorem spec_l5Add_L0.succ {α : Type} (N n : Nat) (v279 : List Int) (v280 : List Int) (v281 : Int) (v282 : Int) (v283 : Int) (v284 : List Int) (k0 : Int → List Int → Option α) : spec_l5Add_L0 N (n + 1) v279 v280 v281 v282 v283 v284 k0 = spec_l5Add_L0r N (fun y0 y1 y2 y3 y4 y5 => spec_l5Add_L0 N n y0 y1 y2 y3 y4 y5 k0) k0 v279 v280 v281 v282 v283 v284 := by rw [spec_l5Add_L0.eq]; rfl
noncomputable def spec_l5Add_J12.b {α : Type} (N : Nat) (v302 : Int) (v303 : List Int) (k0 : List Int → Option α) : Option α :=
  let x304 := (decide ((0 : Int) < v302))
  bif x304 then
    let x305 := [v302]
    bif decide (v303.length + x305.length ≤ 8796093022208) then
      let x306 := v303 ++ x305
      k0 x306
    else
      none
  else
    k0 v303
theorem spec_l5Add_J12.ex : ∃ f : ((α : Type) → Nat → Int → List Int → (List Int → Option α) → Option α), f = fun α => @spec_l5Add_J12.b α := ⟨_, rfl⟩
noncomputable def spec_l5Add_J12 {α : Type} : Nat → Int → List Int → (List Int → Option α) → Option α := Classical.choose spec_l5Add_J12.ex α
theorem spec_l5Add_J12.eq : @spec_l5Add_J12 = @spec_l5Add_J12.b := funext fun α => congrFun (Classical.choose_spec spec_l5Add_J12.ex) α
/-- loop.example/pinfold/spec.l5Add -/
noncomputable def spec_l5Add.b {α : Type} (N : Nat) (a267 : List Int) (a268 : List Int) (k0 : List Int → Option α) : Option α :=
  let x269 := ((a267.length : Nat) : Int)
  spec_l5Add_J2 N a267 a268 x269
    (fun x276 x277 x278 =>
      spec_l5Add_L0 N N x276 x277 x278 (0 : Int) (0 : Int) []
        (fun x300 x301 =>
          spec_l5Add_J12 N x300 x301
            (fun x307 =>
              k0 x307)))
theorem spec_l5Add.ex : ∃ f : ((α : Type) → Nat → List Int → List Int → (List Int → Option α) → Option α), f = fun α => @spec_l5Add.b α := ⟨_, rfl⟩
noncomputable def spec_l5Add {α : Type} : Nat → List Int → List Int → (List Int → Option α) → Option α := Classical.choose spec_l5Add.ex α
theorem spec_l5Add.eq : @spec_l5Add = @spec_l5Add.b := funext fun α => congrFun (Classical.choose_spec spec_l5Add.ex) α

noncomputable def spec_l5Sub_J8.b {α : Type} (N : Nat) (v360 : List Int) (v361 : List Int) (v362 : Int) (v363 : Int) (v364 : Int) (v365 : List Int) (k0 : List Int → List Int → Int → Int → Int → List Int → Option α) : Option α :=
  let x366 := (decide (v364 < (0 : Int)))
  bif x366 then
    let x367 := (IntKind.i64.wrap (v364 + (65536 : Int)))
    k0 v360 v361 (1 : Int) v363 x367 v365
  else
    k0 v360 v361 v362 v363 v364 v365
theorem spec_l5Sub_J8.ex : ∃ f : ((α : Type) → Nat → List Int → List Int → Int → Int → Int → List Int → (List Int → List Int → Int → Int → Int → List Int → Option α) → Option α), f = fun α => @spec_l5Sub_J8.b α := ⟨_, rfl⟩
noncomputable def spec_l5Sub_J8 {α : Type} : Nat → List Int → List Int → Int → Int → Int → List Int → (List Int → List Int → Int → Int → Int → List Int → Option α) → Option α := Classical.choose spec_l5Sub_J8.ex α
theorem spec_l5Sub_J8.eq : @spec_l5Sub_J8 = @spec_l5Sub_J8.b := funext fun α => congrFun (Classical.choose_spec spec_l5Sub_J8.ex) α
noncomputable def spec_l5Sub_L0r {α : Type} (N : Nat) (next : List Int → List Int → Int → Int → List Int → Option α) (k0 : List Int → Option α) (v349 : List Int) (v350 : List Int) (v351 : Int) (v352 : Int) (v353 : List Int) : Option α :=
  let x354 := ((v349.length : Nat) : Int)
  let x355 := decide (v352 < x354)
  bif x355 then
    bif (decide (v352 < (0 : Int))) then
      none
    else
      match v349[v352.toNat]? with
      | some x356 =>
        spec_l5At N v350 v352
          (fun x357 =>
            let x358 := IntKind.i64.wrap (x356 - x357)
            let x359 := IntKind.i64.wrap (x358 - v351)
            spec_l5Sub_J8 N v349 v350 (0 : Int) v352 x359 v353
              (fun x368 x369 x370 x371 x372 x373 =>
                let x374 := [x372]
                bif decide (x373.length + x374.length ≤ 8796093022208) then
                  let x375 := x373 ++ x374
                  let x376 := (IntKind.i64.wrap (x371 + (1 : Int)))
                  next x368 x369 x370 x376 x375
                else
                  none))
      | none => none
  else
    k0 v353
noncomputable def spec_l5Sub_L0.b {α : Type} (N n : Nat) (v349 : List Int) (v350 : List Int) (v351 : Int) (v352 : Int) (v353 : List Int) (k0 : List Int → Option α) : Option α :=
  Nat.rec (motive := fun _ => List Int → List Int → Int → Int → List Int → Option α) (fun _ _ _ _ _ => none) (fun _ next => spec_l5Sub_L0r N next k0) n v349 v350 v351 v352 v353
theorem spec_l5Sub_L0.ex : ∃ f : ((α : Type) → Nat → Nat → List Int → List Int → Int → Int → List Int → (List Int → Option α) → Option α), f = fun α => @spec_l5Sub_L0.b α := ⟨_, rfl⟩
noncomputable def spec_l5Sub_L0 {α : Type} : Nat → Nat → List Int → List Int → Int → Int → List Int → (List Int → Option α) → Option α := Classical.choose spec_l5Sub_L0.ex α
theorem spec_l5Sub_L0.eq : @spec_l5Sub_L0 = @spec_l5Sub_L0.b := funext fun α => congrFun (Classical.choose_spec spec_l5Sub_L0.ex) α
theorem spec_l5Sub_L0.zero {α : Type} (N : Nat) (v349 : List Int) (v350 : List Int) (v351 : Int) (v352 : Int) (v353 : List Int) (k0 : List Int → Option α) : spec_l5Sub_L0 N 0 v349 v350 v351 v352 v353 k0 = none := by rw [spec_l5Sub_L0.eq]; rfl
theorem spec_l5Sub_L0.succ {α : Type} (N n : Nat) (v349 : List Int) (v350 : List Int) (v351 : Int) (v352 : Int) (v353 : List Int) (k0 : List Int → Option α) : spec_l5Sub_L0 N (n + 1) v349 v350 v351 v352 v353 k0 = spec_l5Sub_L0r N (fun y0 y1 y2 y3 y4 => spec_l5Sub_L0 N n y0 y1 y2 y3 y4 k0) k0 v349 v350 v351 v352 v353 := by rw [spec_l5Sub_L0.eq]; rfl
/-- loop.example/pinfold/spec.l5Sub -/
noncomputable def spec_l5Sub.b {α : Type} (N : Nat) (a347 : List Int) (a348 : List Int) (k0 : List Int → Option α) : Option α :=
  spec_l5Sub_L0 N N a347 a348 (0 : Int) (0 : Int) []
    (fun x377 =>
      spec_l5Trim N x377
        (fun x378 =>
          k0 x378))
theorem spec_l5Sub.ex : ∃ f : ((α : Type) → Nat → List Int → List Int → (List Int → Option α) → Option α), f = fun α => @spec_l5Sub.b α := ⟨_, rfl⟩
noncomputable def spec_l5Sub {α : Type} : Nat → List Int → List Int → (List Int → Option α) → Option α := Classical.choose spec_l5Sub.ex α
theorem spec_l5Sub.eq : @spec_l5Sub = @spec_l5Sub.b := funext fun α => congrFun (Classical.choose_spec spec_l5Sub.ex) α

noncomputable def spec_l5Div_J17.b {α : Type} (N : Nat) (v318 : Int) (v319 : Int) (v320 : Int) (v321 : Int) (v322 : List Int) (v323 : List Int) (v324 : List Int) (v325 : List Int) (k0 : Int → Int → Int → Int → List Int → List Int → List Int → List Int → Option α) : Option α :=
  let x326 := (decide ((65536 : Int) ≤ v321))
  bif x326 then
    k0 v318 v319 v320 (65535 : Int) v322 v323 v324 v325
  else
    k0 v318 v319 v320 v321 v322 v323 v324 v325
theorem spec_l5Div_J17.ex : ∃ f : ((α : Type) → Nat → Int → Int → Int → Int → List Int → List Int → List Int → List Int → (Int → Int → Int → Int → List Int → List Int → List Int → List Int → Option α) → Option α), f = fun α => @spec_l5Div_J17.b α := ⟨_, rfl⟩
noncomputable def spec_l5Div_J17 {α : Type} : Nat → Int → Int → Int → Int → List Int → List Int → List Int → List Int → (Int → Int → Int → Int → List Int → List Int → List Int → List Int → Option α) → Option α := Classical.choose spec_l5Div_J17.ex α
theorem spec_l5Div_J17.eq : @spec_l5Div_J17 = @spec_l5Div_J17.b := funext fun α => congrFun (Classical.choose_spec spec_l5Div_J17.ex) α
noncomputable def spec_l5Div_L2r {α : Type} (N : Nat) (next : Int → Int → Int → Int → List Int → List Int → List Int → List Int → List Int → Option α) (k0 : Int → Int → Int → Int → List Int → List Int → List Int → List Int → List Int → Option α) (v336 : Int) (v337 : Int) (v338 : Int) (v339 : Int) (v340 : List Int) (v341 : List Int) (v342 : List Int) (v343 : List Int) (v344 : List Int) : Option α :=
  spec_l5Cmp N v344 v343
    (fun x345 =>
      let x346 := (decide ((0 : Int) < x345))
      bif x346 then
        spec_l5Sub N v344 v341
          (fun x379 =>
            let x380 := (IntKind.i64.wrap (v339 - (1 : Int)))
            next v336 v337 v338 x380 v340 v341 v342 v343 x379)
      else
        k0 v336 v337 v338 v339 v340 v341 v342 v343 v344)
noncomputable def spec_l5Div_L2.b {α : Type} (N n : Nat) (v336 : Int) (v337 : Int) (v338 : Int) (v339 : Int) (v340 : List Int) (v341 : List Int) (v342 : List Int) (v343 : List Int) (v344 : List Int) (k0 : Int → Int → Int → Int → List Int → List Int → List Int → List Int → List Int → Option α) : Option α :=
  Nat.rec (motive := fun _ => Int → Int → Int → Int → List Int → List Int → List Int → List Int → List Int → Option α) (fun _ _ _ _ _ _ _ _ _ => none) (fun _ next => spec_l5Div_L2r N next k0) n v336 v337 v338 v339 v340 v341 v342 v343 v344
theorem spec_l5Div_L2.ex : ∃ f : ((α : Type) → Nat → Nat → Int → Int → Int → Int → List Int → List Int → List Int → List Int → List Int → (Int → Int → Int → Int → List Int → List Int → List Int → List Int → List Int → Option α) → Option α), f = fun α => @spec_l5Div_L2.b α := ⟨_, rfl⟩
noncomputable def spec_l5Div_L2 {α : Type} : Nat → Nat → Int → Int → Int → Int → List Int → List Int → List Int → List Int → List Int → (Int → Int → Int → Int → List Int → List Int → List Int → List Int → List Int → Option α) → Option α := Classical.choose spec_l5Div_L2.ex α
theorem spec_l5Div_L2.eq : @spec_l5Div_L2 = @spec_l5Div_L2.b := funext fun α => congrFun (Classical.choose_spec spec_l5Div_L2.ex) α
theorem spec_l5Div_L2.zero {α : Type} (N : Nat) (v336 : Int) (v337 : Int) (v338 : Int) (v339 : Int) (v340 : List Int) (v341 : List Int) (v342 : List Int) (v343 : List Int) (v344 : List Int) (k0 : Int → Int → Int → Int → List Int → List Int → List Int → List Int → List Int → Option α) : spec_l5Div_L2 N 0 v336 v337 v338 v339 v340 v341 v342 v343 v344 k0 = none := by rw [spec_l5Div_L2.eq]; rfl
theorem spec_l5Div_L2.succ {α : Type} (N n : Nat) (v336 : Int) (v337 : Int) (v338 : Int) (v339 : Int) (v340 : List Int) (v341 : List Int) (v342 : List Int) (v343 : List Int) (v344 : List Int) (k0 : Int → Int → Int → Int → List Int → List Int → List Int → List Int → List Int → Option α) : spec_l5Div_L2 N (n + 1) v336 v337 v338 v339 v340 v341 v342 v343 v344 k0 = spec_l5Div_L2r N (fun y0 y1 y2 y3 y4 y5 y6 y7 y8 => spec_l5Div_L2 N n y0 y1 y2 y3 y4 y5 y6 y7 y8 k0) k0 v336 v337 v338 v339 v340 v341 v342 v343 v344 := by rw [spec_l5Div_L2.eq]; rfl
noncomputable def spec_l5Div_L0r {α : Type} (N : Nat) (next : Int → Int → Int → List Int → List Int → List Int → List Int → Option α) (k0 : Int → List Int → List Int → Option α) (v240 : Int) (v241 : Int) (v242 : Int) (v243 : List Int) (v244 : List Int) (v245 : List Int) (v246 : List Int) : Option α :=
  let x247 := (decide ((0 : Int) ≤ v242))
  bif x247 then
    spec_l5Shl N v246 (1 : Int)
      (fun x263 =>
        bif (decide (v242 < (0 : Int))) then
          none
        else
          bif decide (v242.toNat < v243.length) then
            match v243[v242.toNat]? with
            | some x264 =>
              let x265 := IntKind.u64.wrap x264
              spec_NatOf N x265
                (fun x266 =>
                  spec_l5Add N x263 x266
                    (fun x308 =>
                      spec_l5Trim N x308
                        (fun x309 =>
                          spec_l5At N x309 v241
                            (fun x310 =>
                              let x311 := (IntKind.i64.wrap (x310 * (65536 : Int)))
                              let x312 := (IntKind.i64.wrap (v241 - (1 : Int)))
                              spec_l5At N x309 x312
                                (fun x313 =>
                                  let x314 := IntKind.i64.wrap (x311 + x313)
                                  let x315 := (IntKind.i64.wrap (v241 - (1 : Int)))
                                  bif (decide (x315 < (0 : Int))) then
                                    none
                                  else
                                    bif decide (x315.toNat < v244.length) then
                                      match v244[x315.toNat]? with
                                      | some x316 =>
                                        bif (decide (x316 = (0 : Int))) then
                                          none
                                        else
                                          let x317 := IntKind.i64.wrap (Int.tdiv x314 x316)
                                          spec_l5Div_J17 N v240 v241 v242 x317 v243 v244 v245 x309
                                            (fun x327 x328 x329 x330 x331 x332 x333 x334 =>
                                              spec_l5Times N x332 x330
                                                (fun x335 =>
                                                  spec_l5Div_L2 N N x327 x328 x329 x330 x331 x332 x333 x334 x335
                                                    (fun x381 x382 x383 x384 x385 x386 x387 x388 x389 =>
                                                      bif (decide (x383 < (0 : Int))) then
                                                        none
                                                      else
                                                        bif decide (x383.toNat < x387.length) then
                                                          match x387[x383.toNat]? with
                                                          | some x390 =>
                                                            let x391 := x387.set x383.toNat x384
                                                            spec_l5Sub N x388 x389
                                                              (fun x392 =>
                                                                let x393 := (IntKind.i64.wrap (x383 - (1 : Int)))
                                                                next x381 x382 x393 x385 x386 x391 x392)
                                                          | none => none
                                                        else
                                                          none)))
                                      | none => none
                                    else
                                      none)))))
            | none => none
          else
            none)
  else
    k0 v240 v245 v246
noncomputable def spec_l5Div_L0.b {α : Type} (N n : Nat) (v240 : Int) (v241 : Int) (v242 : Int) (v243 : List Int) (v244 : List Int) (v245 : List Int) (v246 : List Int) (k0 : Int → List Int → List Int → Option α) : Option α :=
  Nat.rec (motive := fun _ => Int → Int → Int → List Int → List Int → List Int → List Int → Option α) (fun _ _ _ _ _ _ _ => none) (fun _ next => spec_l5Div_L0r N next k0) n v240 v241 v242 v243 v244 v245 v246
theorem spec_l5Div_L0.ex : ∃ f : ((α : Type) → Nat → Nat → Int → Int → Int → List Int → List Int → List Int → List Int → (Int → List Int → List Int → Option α) → Option α), f = fun α => @spec_l5Div_L0.b α := ⟨_, rfl⟩
noncomputable def spec_l5Div_L0 {α : Type} : Nat → Nat → Int → Int → Int → List Int → List Int → List Int → List Int → (Int → List Int → List Int → Option α) → Option α := Classical.choose spec_l5Div_L0.ex α
theorem spec_l5Div_L0.eq : @spec_l5Div_L0 = @spec_l5Div_L0.b := funext fun α => congrFun (Classical.choose_spec spec_l5Div_L0.ex) α
theorem spec_l5Div_L0.zero {α : Type} (N : Nat) (v240 : Int) (v241 : Int) (v242 : Int) (v243 : List Int) (v244 : List Int) (v245 : List Int) (v246 : List Int) (k0 : Int → List Int → List Int → Option α) : spec_l5Div_L0 N 0 v240 v241 v242 v243 v244 v245 v246 k0 = none := by rw [spec_l5Div_L0.eq]; rfl
theorem spec_l5Div_L0.succ {α : Type} (N n : Nat) (v240 : Int) (v241 : Int) (v242 : Int) (v243 : List Int) (v244 : List Int) (v245 : List Int) (v246 : List Int) (k0 : Int → List Int → List Int → Option α) : spec_l5Div_L0 N (n + 1) v240 v241 v242 v243 v244 v245 v246 k0 = spec_l5Div_L0r N (fun y0 y1 y2 y3 y4 y5 y6 => spec_l5Div_L0 N n y0 y1 y2 y3 y4 y5 y6 k0) k0 v240 v241 v242 v243 v244 v245 v246 := by rw [spec_l5Div_L0.eq]; rfl
/-- loop.example/pinfold/spec.l5Div -/
noncomputable def spec_l5Div.b {α : Type} (N : Nat) (a93 : List Int) (a94 : List Int) (k0 : List Int → List Int → Option α) : Option α :=
  spec_l5Cmp N a93 a94
    (fun x117 =>
      let x118 := (decide (x117 < (0 : Int)))
      bif x118 then
        spec_l5Trim N a93
          (fun x119 =>
            k0 [] x119)
      else
        let x120 := ((a94.length : Nat) : Int)
        let x121 := (decide (x120 = (1 : Int)))
        bif x121 then
          match a94[0]? with
          | some x122 =>
            spec_l5DivSmall N a93 x122
              (fun x146 x147 =>
                let x148 := IntKind.u64.wrap x146
                spec_NatOf N x148
                  (fun x159 =>
                    k0 x147 x159))
          | none => none
        else
          let x160 := ((a94.length : Nat) : Int)
          let x161 := (IntKind.i64.wrap (x160 - (1 : Int)))
          bif (decide (x161 < (0 : Int))) then
            none
          else
            match a94[x161.toNat]? with
            | some x162 =>
              let x163 := (IntKind.i64.wrap (x162 + (1 : Int)))
              bif (decide (x163 = (0 : Int))) then
                none
              else
                let x164 := (IntKind.i64.wrap (Int.tdiv (65536 : Int) x163))
                spec_l5Times N a93 x164
                  (fun x215 =>
                    spec_l5Times N a94 x164
                      (fun x216 =>
                        let x217 := ((x216.length : Nat) : Int)
                        let x218 := ((x215.length : Nat) : Int)
                        let x219 := IntKind.i64.wrap (x218 - x217)
                        let x220 := (IntKind.i64.wrap (x219 + (1 : Int)))
                        bif (decide ((0 : Int) ≤ x220)) then
                          bif decide (x220 ≤ x220) then
                            bif (decide (x220 ≤ ((8796093022208 : Nat) : Int))) then
                              let x221 := (List.replicate x220.toNat (0 : Int))
                              let x222 := ((x215.length : Nat) : Int)
                              let x223 := IntKind.i64.wrap (x222 - x217)
                              let x224 := (IntKind.i64.wrap (x223 + (1 : Int)))
                              spec_l5Top N x215 x224
                                (fun x237 =>
                                  let x238 := ((x215.length : Nat) : Int)
                                  let x239 := IntKind.i64.wrap (x238 - x217)
                                  spec_l5Div_L0 N N x164 x217 x239 x215 x216 x221 x237
                                    (fun x394 x395 x396 =>
                                      spec_l5DivSmall N x396 x394
                                        (fun _ x398 =>
                                          spec_l5Trim N x395
                                            (fun x399 =>
                                              k0 x399 x398))))
                            else
                              none
                          else
                            none
                        else
                          none))
            | none => none)
theorem spec_l5Div.ex : ∃ f : ((α : Type) → Nat → List Int → List Int → (List Int → List Int → Option α) → Option α), f = fun α => @spec_l5Div.b α := ⟨_, rfl⟩
noncomputable def spec_l5Div {α : Type} : Nat → List Int → List Int → (List Int → List Int → Option α) → Option α := Classical.choose spec_l5Div.ex α
theorem spec_l5Div.eq : @spec_l5Div = @spec_l5Div.b := funext fun α => congrFun (Classical.choose_spec spec_l5Div.ex) α

noncomputable def spec_l5Gcd_L0r {α : Type} (N : Nat) (next : List Int → List Int → Option α) (k0 : List Int → Option α) (v89 : List Int) (v90 : List Int) : Option α :=
  let x91 := ((v90.length : Nat) : Int)
  let x92 := (decide ((0 : Int) < x91))
  bif x92 then
    spec_l5Div N v89 v90
      (fun _ x401 =>
        next v90 x401)
  else
    k0 v89
noncomputable def spec_l5Gcd_L0.b {α : Type} (N n : Nat) (v89 : List Int) (v90 : List Int) (k0 : List Int → Option α) : Option α :=
  Nat.rec (motive := fun _ => List Int → List Int → Option α) (fun _ _ => none) (fun _ next => spec_l5Gcd_L0r N next k0) n v89 v90
theorem spec_l5Gcd_L0.ex : ∃ f : ((α : Type) → Nat → Nat → List Int → List Int → (List Int → Option α) → Option α), f = fun α => @spec_l5Gcd_L0.b α := ⟨_, rfl⟩
noncomputable def spec_l5Gcd_L0 {α : Type} : Nat → Nat → List Int → List Int → (List Int → Option α) → Option α := Classical.choose spec_l5Gcd_L0.ex α
theorem spec_l5Gcd_L0.eq : @spec_l5Gcd_L0 = @spec_l5Gcd_L0.b := funext fun α => congrFun (Classical.choose_spec spec_l5Gcd_L0.ex) α
theorem spec_l5Gcd_L0.zero {α : Type} (N : Nat) (v89 : List Int) (v90 : List Int) (k0 : List Int → Option α) : spec_l5Gcd_L0 N 0 v89 v90 k0 = none := by rw [spec_l5Gcd_L0.eq]; rfl
theorem spec_l5Gcd_L0.succ {α : Type} (N n : Nat) (v89 : List Int) (v90 : List Int) (k0 : List Int → Option α) : spec_l5Gcd_L0 N (n + 1) v89 v90 k0 = spec_l5Gcd_L0r N (fun y0 y1 => spec_l5Gcd_L0 N n y0 y1 k0) k0 v89 v90 := by rw [spec_l5Gcd_L0.eq]; rfl
/-- loop.example/pinfold/spec.l5Gcd -/
noncomputable def spec_l5Gcd.b {α : Type} (N : Nat) (a64 : List Int) (a65 : List Int) (k0 : List Int → Option α) : Option α :=
  spec_l5Trim N a64
    (fun x87 =>
      spec_l5Trim N a65
        (fun x88 =>
          spec_l5Gcd_L0 N N x87 x88
            (fun x402 =>
              k0 x402)))
theorem spec_l5Gcd.ex : ∃ f : ((α : Type) → Nat → List Int → List Int → (List Int → Option α) → Option α), f = fun α => @spec_l5Gcd.b α := ⟨_, rfl⟩
noncomputable def spec_l5Gcd {α : Type} : Nat → List Int → List Int → (List Int → Option α) → Option α := Classical.choose spec_l5Gcd.ex α
theorem spec_l5Gcd.eq : @spec_l5Gcd = @spec_l5Gcd.b := funext fun α => congrFun (Classical.choose_spec spec_l5Gcd.ex) α

/-- loop.example/pinfold/spec.l6One -/
noncomputable def spec_l6One.b {α : Type} (N : Nat) (a404 : List Int) (k0 : Bool → Option α) : Option α :=
  let x405 := ((a404.length : Nat) : Int)
  let x406 := (decide (x405 = (1 : Int)))
  bif x406 then
    match a404[0]? with
    | some x407 =>
      let x408 := (decide (x407 = (1 : Int)))
      k0 x408
    | none => none
  else
    k0 false
theorem spec_l6One.ex : ∃ f : ((α : Type) → Nat → List Int → (Bool → Option α) → Option α), f = fun α => @spec_l6One.b α := ⟨_, rfl⟩
noncomputable def spec_l6One {α : Type} : Nat → List Int → (Bool → Option α) → Option α := Classical.choose spec_l6One.ex α
theorem spec_l6One.eq : @spec_l6One = @spec_l6One.b := funext fun α => congrFun (Classical.choose_spec spec_l6One.ex) α

/-- loop.example/pinfold/spec.FracOk -/
noncomputable def spec_FracOk.b {α : Type} (N : Nat) (a35 : Bool × (List Int) × (List Int) × Unit) (k0 : Bool → Option α) : Option α :=
  spec_NatOk N a35.2.1
    (fun x56 =>
      let x57 := !x56
      bif x57 then
        k0 false
      else
        spec_NatOk N a35.2.2.1
          (fun x58 =>
            let x59 := !x58
            bif x59 then
              k0 false
            else
              let x60 := ((a35.2.2.1.length : Nat) : Int)
              let x61 := (decide (x60 = (0 : Int)))
              bif x61 then
                k0 false
              else
                let x62 := ((a35.2.1.length : Nat) : Int)
                let x63 := (decide (x62 = (0 : Int)))
                bif x63 then
                  bif a35.1 then
                    k0 false
                  else
                    spec_l5Gcd N a35.2.1 a35.2.2.1
                      (fun x403 =>
                        spec_l6One N x403
                          (fun x409 =>
                            k0 x409))
                else
                  spec_l5Gcd N a35.2.1 a35.2.2.1
                    (fun x410 =>
                      spec_l6One N x410
                        (fun x411 =>
                          k0 x411))))
theorem spec_FracOk.ex : ∃ f : ((α : Type) → Nat → (Bool × (List Int) × (List Int) × Unit) → (Bool → Option α) → Option α), f = fun α => @spec_FracOk.b α := ⟨_, rfl⟩
noncomputable def spec_FracOk {α : Type} : Nat → (Bool × (List Int) × (List Int) × Unit) → (Bool → Option α) → Option α := Classical.choose spec_FracOk.ex α
theorem spec_FracOk.eq : @spec_FracOk = @spec_FracOk.b := funext fun α => congrFun (Classical.choose_spec spec_FracOk.ex) α

noncomputable def spec_l5Bits_L0r {α : Type} (N : Nat) (next : Int → Int → Option α) (k0 : Int → Option α) (v427 : Int) (v428 : Int) : Option α :=
  let x429 := (decide ((0 : Int) < v428))
  bif x429 then
    let x430 := (IntKind.i64.wrap (v427 + (1 : Int)))
    let x431 := (IntKind.i64.wrap (Int.tdiv v428 (2 : Int)))
    next x430 x431
  else
    k0 v427
noncomputable def spec_l5Bits_L0.b {α : Type} (N n : Nat) (v427 : Int) (v428 : Int) (k0 : Int → Option α) : Option α :=
  Nat.rec (motive := fun _ => Int → Int → Option α) (fun _ _ => none) (fun _ next => spec_l5Bits_L0r N next k0) n v427 v428
theorem spec_l5Bits_L0.ex : ∃ f : ((α : Type) → Nat → Nat → Int → Int → (Int → Option α) → Option α), f = fun α => @spec_l5Bits_L0.b α := ⟨_, rfl⟩
noncomputable def spec_l5Bits_L0 {α : Type} : Nat → Nat → Int → Int → (Int → Option α) → Option α := Classical.choose spec_l5Bits_L0.ex α
theorem spec_l5Bits_L0.eq : @spec_l5Bits_L0 = @spec_l5Bits_L0.b := funext fun α => congrFun (Classical.choose_spec spec_l5Bits_L0.ex) α
theorem spec_l5Bits_L0.zero {α : Type} (N : Nat) (v427 : Int) (v428 : Int) (k0 : Int → Option α) : spec_l5Bits_L0 N 0 v427 v428 k0 = none := by rw [spec_l5Bits_L0.eq]; rfl
theorem spec_l5Bits_L0.succ {α : Type} (N n : Nat) (v427 : Int) (v428 : Int) (k0 : Int → Option α) : spec_l5Bits_L0 N (n + 1) v427 v428 k0 = spec_l5Bits_L0r N (fun y0 y1 => spec_l5Bits_L0 N n y0 y1 k0) k0 v427 v428 := by rw [spec_l5Bits_L0.eq]; rfl
/-- loop.example/pinfold/spec.l5Bits -/
noncomputable def spec_l5Bits.b {α : Type} (N : Nat) (a418 : List Int) (k0 : Int → Option α) : Option α :=
  let x419 := ((a418.length : Nat) : Int)
  let x420 := (decide (x419 = (0 : Int)))
  bif x420 then
    k0 (0 : Int)
  else
    let x421 := ((a418.length : Nat) : Int)
    let x422 := (IntKind.i64.wrap (x421 - (1 : Int)))
    let x423 := (IntKind.i64.wrap ((16 : Int) * x422))
    let x424 := ((a418.length : Nat) : Int)
    let x425 := (IntKind.i64.wrap (x424 - (1 : Int)))
    bif (decide (x425 < (0 : Int))) then
      none
    else
      match a418[x425.toNat]? with
      | some x426 =>
        spec_l5Bits_L0 N N x423 x426
          (fun x432 =>
            k0 x432)
      | none => none
theorem spec_l5Bits.ex : ∃ f : ((α : Type) → Nat → List Int → (Int → Option α) → Option α), f = fun α => @spec_l5Bits.b α := ⟨_, rfl⟩
noncomputable def spec_l5Bits {α : Type} : Nat → List Int → (Int → Option α) → Option α := Classical.choose spec_l5Bits.ex α
theorem spec_l5Bits.eq : @spec_l5Bits = @spec_l5Bits.b := funext fun α => congrFun (Classical.choose_spec spec_l5Bits.ex) α

/-- loop.example/pinfold/spec.l5Pow2 -/
noncomputable def spec_l5Pow2.b {α : Type} (N : Nat) (a440 : Int) (k0 : List Int → Option α) : Option α :=
  let x441 := (Int.tmod a440 (16 : Int))
  let x442 := IntKind.u64.wrap x441
  bif (decide (x442 < (0 : Int))) then
    none
  else
    let x443 := (shlI .i64 (1 : Int) x442)
    let x444 := [x443]
    let x445 := (IntKind.i64.wrap (Int.tdiv a440 (16 : Int)))
    spec_l5Shl N x444 x445
      (fun x446 =>
        k0 x446)
theorem spec_l5Pow2.ex : ∃ f : ((α : Type) → Nat → Int → (List Int → Option α) → Option α), f = fun α => @spec_l5Pow2.b α := ⟨_, rfl⟩
noncomputable def spec_l5Pow2 {α : Type} : Nat → Int → (List Int → Option α) → Option α := Classical.choose spec_l5Pow2.ex α
theorem spec_l5Pow2.eq : @spec_l5Pow2 = @spec_l5Pow2.b := funext fun α => congrFun (Classical.choose_spec spec_l5Pow2.ex) α

noncomputable def spec_l5Root_J6.b {α : Type} (N : Nat) (v449 : List Int) (v450 : Int) (v451 : List Int) (v452 : List Int) (k0 : List Int → Int → List Int → Option α) : Option α :=
  spec_l5Mul N v452 v452
    (fun x453 =>
      spec_l5Cmp N x453 v449
        (fun x454 =>
          let x455 := (decide (x454 ≤ (0 : Int)))
          bif x455 then
            k0 v449 v450 v452
          else
            k0 v449 v450 v451))
theorem spec_l5Root_J6.ex : ∃ f : ((α : Type) → Nat → List Int → Int → List Int → List Int → (List Int → Int → List Int → Option α) → Option α), f = fun α => @spec_l5Root_J6.b α := ⟨_, rfl⟩
noncomputable def spec_l5Root_J6 {α : Type} : Nat → List Int → Int → List Int → List Int → (List Int → Int → List Int → Option α) → Option α := Classical.choose spec_l5Root_J6.ex α
theorem spec_l5Root_J6.eq : @spec_l5Root_J6 = @spec_l5Root_J6.b := funext fun α => congrFun (Classical.choose_spec spec_l5Root_J6.ex) α
noncomputable def spec_l5Root_L0r {α : Type} (N : Nat) (next : List Int → Int → List Int → Option α) (k0 : List Int → Option α) (v436 : List Int) (v437 : Int) (v438 : List Int) : Option α :=
  let x439 := (decide ((0 : Int) ≤ v437))
  bif x439 then
    spec_l5Pow2 N v437
      (fun x447 =>
        spec_l5Add N v438 x447
          (fun x448 =>
            spec_l5Root_J6 N v436 v437 v438 x448
              (fun x456 x457 x458 =>
                let x459 := (IntKind.i64.wrap (x457 - (1 : Int)))
                next x456 x459 x458)))
  else
    k0 v438
noncomputable def spec_l5Root_L0.b {α : Type} (N n : Nat) (v436 : List Int) (v437 : Int) (v438 : List Int) (k0 : List Int → Option α) : Option α :=
  Nat.rec (motive := fun _ => List Int → Int → List Int → Option α) (fun _ _ _ => none) (fun _ next => spec_l5Root_L0r N next k0) n v436 v437 v438
theorem spec_l5Root_L0.ex : ∃ f : ((α : Type) → Nat → Nat → List Int → Int → List Int → (List Int → Option α) → Option α), f = fun α => @spec_l5Root_L0.b α := ⟨_, rfl⟩
noncomputable def spec_l5Root_L0 {α : Type} : Nat → Nat → List Int → Int → List Int → (List Int → Option α) → Option α := Classical.choose spec_l5Root_L0.ex α
theorem spec_l5Root_L0.eq : @spec_l5Root_L0 = @spec_l5Root_L0.b := funext fun α => congrFun (Classical.choose_spec spec_l5Root_L0.ex) α
theorem spec_l5Root_L0.zero {α : Type} (N : Nat) (v436 : List Int) (v437 : Int) (v438 : List Int) (k0 : List Int → Option α) : spec_l5Root_L0 N 0 v436 v437 v438 k0 = none := by rw [spec_l5Root_L0.eq]; rfl
theorem spec_l5Root_L0.succ {α : Type} (N n : Nat) (v436 : List Int) (v437 : Int) (v438 : List Int) (k0 : List Int → Option α) : spec_l5Root_L0 N (n + 1) v436 v437 v438 k0 = spec_l5Root_L0r N (fun y0 y1 y2 => spec_l5Root_L0 N n y0 y1 y2 k0) k0 v436 v437 v438 := by rw [spec_l5Root_L0.eq]; rfl
/-- loop.example/pinfold/spec.l5Root -/
noncomputable def spec_l5Root.b {α : Type} (N : Nat) (a417 : List Int) (k0 : List Int → Option α) : Option α :=
  spec_l5Bits N a417
    (fun x433 =>
      let x434 := (IntKind.i64.wrap (x433 + (1 : Int)))
      let x435 := (IntKind.i64.wrap (Int.tdiv x434 (2 : Int)))
      spec_l5Root_L0 N N a417 x435 []
        (fun x460 =>
          k0 x460))
theorem spec_l5Root.ex : ∃ f : ((α : Type) → Nat → List Int → (List Int → Option α) → Option α), f = fun α => @spec_l5Root.b α := ⟨_, rfl⟩
noncomputable def spec_l5Root {α : Type} : Nat → List Int → (List Int → Option α) → Option α := Classical.choose spec_l5Root.ex α
theorem spec_l5Root.eq : @spec_l5Root = @spec_l5Root.b := funext fun α => congrFun (Classical.choose_spec spec_l5Root.ex) α

/-- loop.example/pinfold/spec.NatRoot -/
noncomputable def spec_NatRoot.b {α : Type} (N : Nat) (a414 : List Int) (k0 : Bool → Bool → List Int → Option α) : Option α :=
  spec_NatOk N a414
    (fun x415 =>
      let x416 := !x415
      bif x416 then
        k0 false false []
      else
        spec_l5Root N a414
          (fun x461 =>
            spec_l5Mul N x461 x461
              (fun x462 =>
                spec_l5Cmp N x462 a414
                  (fun x463 =>
                    let x464 := (decide (x463 = (0 : Int)))
                    k0 x464 true x461))))
theorem spec_NatRoot.ex : ∃ f : ((α : Type) → Nat → List Int → (Bool → Bool → List Int → Option α) → Option α), f = fun α => @spec_NatRoot.b α := ⟨_, rfl⟩
noncomputable def spec_NatRoot {α : Type} : Nat → List Int → (Bool → Bool → List Int → Option α) → Option α := Classical.choose spec_NatRoot.ex α
theorem spec_NatRoot.eq : @spec_NatRoot = @spec_NatRoot.b := funext fun α => congrFun (Classical.choose_spec spec_NatRoot.ex) α

/-- loop.example/pinfold/spec.FracRoot -/
noncomputable def spec_FracRoot.b {α : Type} (N : Nat) (a34 : Bool × (List Int) × (List Int) × Unit) (k0 : Bool → Bool → List Int → List Int → Option α) : Option α :=
  spec_FracOk N a34
    (fun x412 =>
      let x413 := !x412
      bif x413 then
        k0 false false [] []
      else
        bif a34.1 then
          k0 false false [] []
        else
          spec_NatRoot N a34.2.1
            (fun x465 _ x467 =>
              spec_NatRoot N a34.2.2.1
                (fun x468 _ x470 =>
                  let x471 := !x465
                  bif x471 then
                    k0 false false [] []
                  else
                    let x472 := !x468
                    bif x472 then
                      k0 false false [] []
                    else
                      k0 false true x467 x470)))
theorem spec_FracRoot.ex : ∃ f : ((α : Type) → Nat → (Bool × (List Int) × (List Int) × Unit) → (Bool → Bool → List Int → List Int → Option α) → Option α), f = fun α => @spec_FracRoot.b α := ⟨_, rfl⟩
noncomputable def spec_FracRoot {α : Type} : Nat → (Bool × (List Int) × (List Int) × Unit) → (Bool → Bool → List Int → List Int → Option α) → Option α := Classical.choose spec_FracRoot.ex α
theorem spec_FracRoot.eq : @spec_FracRoot = @spec_FracRoot.b := funext fun α => congrFun (Classical.choose_spec spec_FracRoot.ex) α

/-- loop.example/pinfold/impl.in -/
noncomputable def impl_in.b {α : Type} (N : Nat) (a507 : Int) (a508 : Int) (a509 : Int) (k0 : Bool → Option α) : Option α :=
  let x510 := decide (a508 ≤ a507)
  bif x510 then
    let x511 := decide (a507 ≤ a509)
    k0 x511
  else
    k0 false
theorem impl_in.ex : ∃ f : ((α : Type) → Nat → Int → Int → Int → (Bool → Option α) → Option α), f = fun α => @impl_in.b α := ⟨_, rfl⟩
noncomputable def impl_in {α : Type} : Nat → Int → Int → Int → (Bool → Option α) → Option α := Classical.choose impl_in.ex α
theorem impl_in.eq : @impl_in = @impl_in.b := funext fun α => congrFun (Classical.choose_spec impl_in.ex) α

/-- loop.example/pinfold/impl.NatOk$1 -/
noncomputable def impl_NatOk_1.b {α : Type} (N : Nat) (a506 : Int) (k0 : Bool → Option α) : Option α :=
  impl_in N a506 (0 : Int) (65535 : Int)
    (fun x512 =>
      let x513 := !x512
      k0 x513)
theorem impl_NatOk_1.ex : ∃ f : ((α : Type) → Nat → Int → (Bool → Option α) → Option α), f = fun α => @impl_NatOk_1.b α := ⟨_, rfl⟩
noncomputable def impl_NatOk_1 {α : Type} : Nat → Int → (Bool → Option α) → Option α := Classical.choose impl_NatOk_1.ex α
theorem impl_NatOk_1.eq : @impl_NatOk_1 = @impl_NatOk_1.b := funext fun α => congrFun (Classical.choose_spec impl_NatOk_1.ex) α

noncomputable def slices_IndexFunc_int_int__impl_NatOk_1_L0r {α : Type} (N : Nat) (next : List Int → Int → Int → Option α) (k0 : Int → Option α) (k1 : Option α) (v501 : List Int) (v502 : Int) (v503 : Int) : Option α :=
  let x504 := decide (v503 < v502)
  bif x504 then
    bif (decide (v503 < (0 : Int))) then
      none
    else
      match v501[v503.toNat]? with
      | some x505 =>
        impl_NatOk_1 N x505
          (fun x514 =>
            bif x514 then
              k0 v503
            else
              let x515 := (IntKind.i64.wrap (v503 + (1 : Int)))
              next v501 v502 x515)
      | none => none
  else
    k1
noncomputable def slices_IndexFunc_int_int__impl_NatOk_1_L0.b {α : Type} (N n : Nat) (v501 : List Int) (v502 : Int) (v503 : Int) (k0 : Int → Option α) (k1 : Option α) : Option α :=
  Nat.rec (motive := fun _ => List Int → Int → Int → Option α) (fun _ _ _ => none) (fun _ next => slices_IndexFunc_int_int__impl_NatOk_1_L0r N next k0 k1) n v501 v502 v503
theorem slices_IndexFunc_int_int__impl_NatOk_1_L0.ex : ∃ f : ((α : Type) → Nat → Nat → List Int → Int → Int → (Int → Option α) → (Option α) → Option α), f = fun α => @slices_IndexFunc_int_int__impl_NatOk_1_L0.b α := ⟨_, rfl⟩
noncomputable def slices_IndexFunc_int_int__impl_NatOk_1_L0 {α : Type} : Nat → Nat → List Int → Int → Int → (Int → Option α) → (Option α) → Option α := Classical.choose slices_IndexFunc_int_int__impl_NatOk_1_L0.ex α
theorem slices_IndexFunc_int_int__impl_NatOk_1_L0.eq : @slices_IndexFunc_int_int__impl_NatOk_1_L0 = @slices_IndexFunc_int_int__impl_NatOk_1_L0.b := funext fun α => congrFun (Classical.choose_spec slices_IndexFunc_int_int__impl_NatOk_1_L0.ex) α
theorem slices_IndexFunc_int_int__impl_NatOk_1_L0.zero {α : Type} (N : Nat) (v501 : List Int) (v502 : Int) (v503 : Int) (k0 : Int → Option α) (k1 : Option α) : slices_IndexFunc_int_int__impl_NatOk_1_L0 N 0 v501 v502 v503 k0 k1 = none := by rw [slices_IndexFunc_int_int__impl_NatOk_1_L0.eq]; rfl
theorem slices_IndexFunc_int_int__impl_NatOk_1_L0.succ {α : Type} (N n : Nat) (v501 : List Int) (v502 : Int) (v503 : Int) (k0 : Int → Option α) (k1 : Option α) : slices_IndexFunc_int_int__impl_NatOk_1_L0 N (n + 1) v501 v502 v503 k0 k1 = slices_IndexFunc_int_int__impl_NatOk_1_L0r N (fun y0 y1 y2 => slices_IndexFunc_int_int__impl_NatOk_1_L0 N n y0 y1 y2 k0 k1) k0 k1 v501 v502 v503 := by rw [slices_IndexFunc_int_int__impl_NatOk_1_L0.eq]; rfl
/-- slices.IndexFunc[[]int,int] -/
noncomputable def slices_IndexFunc_int_int__impl_NatOk_1.b {α : Type} (N : Nat) (a499 : List Int) (k0 : Int → Option α) : Option α :=
  let x500 := ((a499.length : Nat) : Int)
  slices_IndexFunc_int_int__impl_NatOk_1_L0 N N a499 x500 (0 : Int)
    (fun x516 =>
      k0 x516)
    (
      k0 (-1 : Int))
theorem slices_IndexFunc_int_int__impl_NatOk_1.ex : ∃ f : ((α : Type) → Nat → List Int → (Int → Option α) → Option α), f = fun α => @slices_IndexFunc_int_int__impl_NatOk_1.b α := ⟨_, rfl⟩
noncomputable def slices_IndexFunc_int_int__impl_NatOk_1 {α : Type} : Nat → List Int → (Int → Option α) → Option α := Classical.choose slices_IndexFunc_int_int__impl_NatOk_1.ex α
theorem slices_IndexFunc_int_int__impl_NatOk_1.eq : @slices_IndexFunc_int_int__impl_NatOk_1 = @slices_IndexFunc_int_int__impl_NatOk_1.b := funext fun α => congrFun (Classical.choose_spec slices_IndexFunc_int_int__impl_NatOk_1.ex) α

/-- slices.ContainsFunc[[]int,int] -/
noncomputable def slices_ContainsFunc_int_int__impl_NatOk_1.b {α : Type} (N : Nat) (a498 : List Int) (k0 : Bool → Option α) : Option α :=
  slices_IndexFunc_int_int__impl_NatOk_1 N a498
    (fun x517 =>
      let x518 := (decide ((0 : Int) ≤ x517))
      k0 x518)
theorem slices_ContainsFunc_int_int__impl_NatOk_1.ex : ∃ f : ((α : Type) → Nat → List Int → (Bool → Option α) → Option α), f = fun α => @slices_ContainsFunc_int_int__impl_NatOk_1.b α := ⟨_, rfl⟩
noncomputable def slices_ContainsFunc_int_int__impl_NatOk_1 {α : Type} : Nat → List Int → (Bool → Option α) → Option α := Classical.choose slices_ContainsFunc_int_int__impl_NatOk_1.ex α
theorem slices_ContainsFunc_int_int__impl_NatOk_1.eq : @slices_ContainsFunc_int_int__impl_NatOk_1 = @slices_ContainsFunc_int_int__impl_NatOk_1.b := funext fun α => congrFun (Classical.choose_spec slices_ContainsFunc_int_int__impl_NatOk_1.ex) α

/-- loop.example/pinfold/impl.NatOk -/
noncomputable def impl_NatOk.b {α : Type} (N : Nat) (a493 : List Int) (k0 : Bool → Option α) : Option α :=
  let x494 := ((a493.length : Nat) : Int)
  let x495 := (decide (x494 ≤ (256 : Int)))
  bif x495 then
    let x496 := ((a493.length : Nat) : Int)
    let x497 := (decide (x496 = (0 : Int)))
    bif x497 then
      slices_ContainsFunc_int_int__impl_NatOk_1 N a493
        (fun x519 =>
          let x520 := !x519
          k0 x520)
    else
      let x521 := ((a493.length : Nat) : Int)
      let x522 := (IntKind.i64.wrap (x521 - (1 : Int)))
      bif (decide (x522 < (0 : Int))) then
        none
      else
        match a493[x522.toNat]? with
        | some x523 =>
          let x524 := (!(decide (x523 = (0 : Int))))
          bif x524 then
            slices_ContainsFunc_int_int__impl_NatOk_1 N a493
              (fun x525 =>
                let x526 := !x525
                k0 x526)
          else
            k0 false
        | none => none
  else
    k0 false
theorem impl_NatOk.ex : ∃ f : ((α : Type) → Nat → List Int → (Bool → Option α) → Option α), f = fun α => @impl_NatOk.b α := ⟨_, rfl⟩
noncomputable def impl_NatOk {α : Type} : Nat → List Int → (Bool → Option α) → Option α := Classical.choose impl_NatOk.ex α
theorem impl_NatOk.eq : @impl_NatOk = @impl_NatOk.b := funext fun α => congrFun (Classical.choose_spec impl_NatOk.ex) α

/-- loop.example/pinfold/impl.nats$1 -/
noncomputable def impl_nats_1.b {α : Type} (N : Nat) (a492 : List Int) (k0 : Bool → Option α) : Option α :=
  impl_NatOk N a492
    (fun x527 =>
      let x528 := !x527
      k0 x528)
theorem impl_nats_1.ex : ∃ f : ((α : Type) → Nat → List Int → (Bool → Option α) → Option α), f = fun α => @impl_nats_1.b α := ⟨_, rfl⟩
noncomputable def impl_nats_1 {α : Type} : Nat → List Int → (Bool → Option α) → Option α := Classical.choose impl_nats_1.ex α
theorem impl_nats_1.eq : @impl_nats_1 = @impl_nats_1.b := funext fun α => congrFun (Classical.choose_spec impl_nats_1.ex) α

noncomputable def slices_IndexFunc_int_int__impl_nats_1_L0r {α : Type} (N : Nat) (next : List (List Int) → Int → Int → Option α) (k0 : Int → Option α) (k1 : Option α) (v487 : List (List Int)) (v488 : Int) (v489 : Int) : Option α :=
  let x490 := decide (v489 < v488)
  bif x490 then
    bif (decide (v489 < (0 : Int))) then
      none
    else
      match v487[v489.toNat]? with
      | some x491 =>
        impl_nats_1 N x491
          (fun x529 =>
            bif x529 then
              k0 v489
            else
              let x530 := (IntKind.i64.wrap (v489 + (1 : Int)))
              next v487 v488 x530)
      | none => none
  else
    k1
noncomputable def slices_IndexFunc_int_int__impl_nats_1_L0.b {α : Type} (N n : Nat) (v487 : List (List Int)) (v488 : Int) (v489 : Int) (k0 : Int → Option α) (k1 : Option α) : Option α :=
  Nat.rec (motive := fun _ => List (List Int) → Int → Int → Option α) (fun _ _ _ => none) (fun _ next => slices_IndexFunc_int_int__impl_nats_1_L0r N next k0 k1) n v487 v488 v489
theorem slices_IndexFunc_int_int__impl_nats_1_L0.ex : ∃ f : ((α : Type) → Nat → Nat → List (List Int) → Int → Int → (Int → Option α) → (Option α) → Option α), f = fun α => @slices_IndexFunc_int_int__impl_nats_1_L0.b α := ⟨_, rfl⟩
noncomputable def slices_IndexFunc_int_int__impl_nats_1_L0 {α : Type} : Nat → Nat → List (List Int) → Int → Int → (Int → Option α) → (Option α) → Option α := Classical.choose slices_IndexFunc_int_int__impl_nats_1_L0.ex α
theorem slices_IndexFunc_int_int__impl_nats_1_L0.eq : @slices_IndexFunc_int_int__impl_nats_1_L0 = @slices_IndexFunc_int_int__impl_nats_1_L0.b := funext fun α => congrFun (Classical.choose_spec slices_IndexFunc_int_int__impl_nats_1_L0.ex) α
theorem slices_IndexFunc_int_int__impl_nats_1_L0.zero {α : Type} (N : Nat) (v487 : List (List Int)) (v488 : Int) (v489 : Int) (k0 : Int → Option α) (k1 : Option α) : slices_IndexFunc_int_int__impl_nats_1_L0 N 0 v487 v488 v489 k0 k1 = none := by rw [slices_IndexFunc_int_int__impl_nats_1_L0.eq]; rfl
theorem slices_IndexFunc_int_int__impl_nats_1_L0.succ {α : Type} (N n : Nat) (v487 : List (List Int)) (v488 : Int) (v489 : Int) (k0 : Int → Option α) (k1 : Option α) : slices_IndexFunc_int_int__impl_nats_1_L0 N (n + 1) v487 v488 v489 k0 k1 = slices_IndexFunc_int_int__impl_nats_1_L0r N (fun y0 y1 y2 => slices_IndexFunc_int_int__impl_nats_1_L0 N n y0 y1 y2 k0 k1) k0 k1 v487 v488 v489 := by rw [slices_IndexFunc_int_int__impl_nats_1_L0.eq]; rfl
/-- slices.IndexFunc[[][]int,[]int] -/
noncomputable def slices_IndexFunc_int_int__impl_nats_1.b {α : Type} (N : Nat) (a485 : List (List Int)) (k0 : Int → Option α) : Option α :=
  let x486 := ((a485.length : Nat) : Int)
  slices_IndexFunc_int_int__impl_nats_1_L0 N N a485 x486 (0 : Int)
    (fun x531 =>
      k0 x531)
    (
      k0 (-1 : Int))
theorem slices_IndexFunc_int_int__impl_nats_1.ex : ∃ f : ((α : Type) → Nat → List (List Int) → (Int → Option α) → Option α), f = fun α => @slices_IndexFunc_int_int__impl_nats_1.b α := ⟨_, rfl⟩
noncomputable def slices_IndexFunc_int_int__impl_nats_1 {α : Type} : Nat → List (List Int) → (Int → Option α) → Option α := Classical.choose slices_IndexFunc_int_int__impl_nats_1.ex α
theorem slices_IndexFunc_int_int__impl_nats_1.eq : @slices_IndexFunc_int_int__impl_nats_1 = @slices_IndexFunc_int_int__impl_nats_1.b := funext fun α => congrFun (Classical.choose_spec slices_IndexFunc_int_int__impl_nats_1.ex) α

/-- slices.ContainsFunc[[][]int,[]int] -/
noncomputable def slices_ContainsFunc_int_int__impl_nats_1.b {α : Type} (N : Nat) (a484 : List (List Int)) (k0 : Bool → Option α) : Option α :=
  slices_IndexFunc_int_int__impl_nats_1 N a484
    (fun x532 =>
      let x533 := (decide ((0 : Int) ≤ x532))
      k0 x533)
theorem slices_ContainsFunc_int_int__impl_nats_1.ex : ∃ f : ((α : Type) → Nat → List (List Int) → (Bool → Option α) → Option α), f = fun α => @slices_ContainsFunc_int_int__impl_nats_1.b α := ⟨_, rfl⟩
noncomputable def slices_ContainsFunc_int_int__impl_nats_1 {α : Type} : Nat → List (List Int) → (Bool → Option α) → Option α := Classical.choose slices_ContainsFunc_int_int__impl_nats_1.ex α
theorem slices_ContainsFunc_int_int__impl_nats_1.eq : @slices_ContainsFunc_int_int__impl_nats_1 = @slices_ContainsFunc_int_int__impl_nats_1.b := funext fun α => congrFun (Classical.choose_spec slices_ContainsFunc_int_int__impl_nats_1.ex) α

/-- loop.example/pinfold/impl.nats -/
noncomputable def impl_nats.b {α : Type} (N : Nat) (a483 : List (List Int)) (k0 : Bool → Option α) : Option α :=
  slices_ContainsFunc_int_int__impl_nats_1 N a483
    (fun x534 =>
      let x535 := !x534
      k0 x535)
theorem impl_nats.ex : ∃ f : ((α : Type) → Nat → List (List Int) → (Bool → Option α) → Option α), f = fun α => @impl_nats.b α := ⟨_, rfl⟩
noncomputable def impl_nats {α : Type} : Nat → List (List Int) → (Bool → Option α) → Option α := Classical.choose impl_nats.ex α
theorem impl_nats.eq : @impl_nats = @impl_nats.b := funext fun α => congrFun (Classical.choose_spec impl_nats.ex) α

noncomputable def impl_natCmp_L0r {α : Type} (N : Nat) (next : List Int → List Int → Int → Option α) (k0 : Int → Option α) (k1 : Option α) (v630 : List Int) (v631 : List Int) (v632 : Int) : Option α :=
  let x633 := (decide ((0 : Int) ≤ v632))
  bif x633 then
    bif (decide (v632 < (0 : Int))) then
      none
    else
      match v630[v632.toNat]? with
      | some x634 =>
        bif (decide (v632 < (0 : Int))) then
          none
        else
          match v631[v632.toNat]? with
          | some x635 =>
            let x636 := !(decide (x634 = x635))
            bif x636 then
              bif (decide (v632 < (0 : Int))) then
                none
              else
                match v630[v632.toNat]? with
                | some x637 =>
                  bif (decide (v632 < (0 : Int))) then
                    none
                  else
                    match v631[v632.toNat]? with
                    | some x638 =>
                      let x639 := IntKind.i64.wrap (x637 - x638)
                      let x640 := (minI (1 : Int) x639)
                      let x641 := (maxI (-1 : Int) x640)
                      k0 x641
                    | none => none
                | none => none
            else
              let x642 := (IntKind.i64.wrap (v632 - (1 : Int)))
              next v630 v631 x642
          | none => none
      | none => none
  else
    k1
noncomputable def impl_natCmp_L0.b {α : Type} (N n : Nat) (v630 : List Int) (v631 : List Int) (v632 : Int) (k0 : Int → Option α) (k1 : Option α) : Option α :=
  Nat.rec (motive := fun _ => List Int → List Int → Int → Option α) (fun _ _ _ => none) (fun _ next => impl_natCmp_L0r N next k0 k1) n v630 v631 v632
theorem impl_natCmp_L0.ex : ∃ f : ((α : Type) → Nat → Nat → List Int → List Int → Int → (Int → Option α) → (Option α) → Option α), f = fun α => @impl_natCmp_L0.b α := ⟨_, rfl⟩
noncomputable def impl_natCmp_L0 {α : Type} : Nat → Nat → List Int → List Int → Int → (Int → Option α) → (Option α) → Option α := Classical.choose impl_natCmp_L0.ex α
theorem impl_natCmp_L0.eq : @impl_natCmp_L0 = @impl_natCmp_L0.b := funext fun α => congrFun (Classical.choose_spec impl_natCmp_L0.ex) α
theorem impl_natCmp_L0.zero {α : Type} (N : Nat) (v630 : List Int) (v631 : List Int) (v632 : Int) (k0 : Int → Option α) (k1 : Option α) : impl_natCmp_L0 N 0 v630 v631 v632 k0 k1 = none := by rw [impl_natCmp_L0.eq]; rfl
theorem impl_natCmp_L0.succ {α : Type} (N n : Nat) (v630 : List Int) (v631 : List Int) (v632 : Int) (k0 : Int → Option α) (k1 : Option α) : impl_natCmp_L0 N (n + 1) v630 v631 v632 k0 k1 = impl_natCmp_L0r N (fun y0 y1 y2 => impl_natCmp_L0 N n y0 y1 y2 k0 k1) k0 k1 v630 v631 v632 := by rw [impl_natCmp_L0.eq]; rfl
/-- loop.example/pinfold/impl.natCmp -/
noncomputable def impl_natCmp.b {α : Type} (N : Nat) (a618 : List Int) (a619 : List Int) (k0 : Int → Option α) : Option α :=
  let x620 := ((a618.length : Nat) : Int)
  let x621 := ((a619.length : Nat) : Int)
  let x622 := !(decide (x620 = x621))
  bif x622 then
    let x623 := ((a618.length : Nat) : Int)
    let x624 := ((a619.length : Nat) : Int)
    let x625 := IntKind.i64.wrap (x623 - x624)
    let x626 := (minI (1 : Int) x625)
    let x627 := (maxI (-1 : Int) x626)
    k0 x627
  else
    let x628 := ((a618.length : Nat) : Int)
    let x629 := (IntKind.i64.wrap (x628 - (1 : Int)))
    impl_natCmp_L0 N N a618 a619 x629
      (fun x643 =>
        k0 x643)
      (
        k0 (0 : Int))
theorem impl_natCmp.ex : ∃ f : ((α : Type) → Nat → List Int → List Int → (Int → Option α) → Option α), f = fun α => @impl_natCmp.b α := ⟨_, rfl⟩
noncomputable def impl_natCmp {α : Type} : Nat → List Int → List Int → (Int → Option α) → Option α := Classical.choose impl_natCmp.ex α
theorem impl_natCmp.eq : @impl_natCmp = @impl_natCmp.b := funext fun α => congrFun (Classical.choose_spec impl_natCmp.ex) α

noncomputable def impl_trim_L0r {α : Type} (N : Nat) (next : List Int → Option α) (k0 : List Int → Option α) (v671 : List Int) : Option α :=
  let x672 := ((v671.length : Nat) : Int)
  let x673 := (decide ((0 : Int) < x672))
  bif x673 then
    let x674 := ((v671.length : Nat) : Int)
    let x675 := (IntKind.i64.wrap (x674 - (1 : Int)))
    bif (decide (x675 < (0 : Int))) then
      none
    else
      match v671[x675.toNat]? with
      | some x676 =>
        let x677 := (decide (x676 = (0 : Int)))
        bif x677 then
          let x678 := ((v671.length : Nat) : Int)
          let x679 := (IntKind.i64.wrap (x678 - (1 : Int)))
          bif (decide ((0 : Int) ≤ x679)) then
            bif (decide (x679 ≤ ((v671.length : Nat) : Int))) then
              let x680 := v671.take x679.toNat
              next x680
            else
              none
          else
            none
        else
          k0 v671
      | none => none
  else
    k0 v671
noncomputable def impl_trim_L0.b {α : Type} (N n : Nat) (v671 : List Int) (k0 : List Int → Option α) : Option α :=
  Nat.rec (motive := fun _ => List Int → Option α) (fun _ => none) (fun _ next => impl_trim_L0r N next k0) n v671
theorem impl_trim_L0.ex : ∃ f : ((α : Type) → Nat → Nat → List Int → (List Int → Option α) → Option α), f = fun α => @impl_trim_L0.b α := ⟨_, rfl⟩
noncomputable def impl_trim_L0 {α : Type} : Nat → Nat → List Int → (List Int → Option α) → Option α := Classical.choose impl_trim_L0.ex α
theorem impl_trim_L0.eq : @impl_trim_L0 = @impl_trim_L0.b := funext fun α => congrFun (Classical.choose_spec impl_trim_L0.ex) α
theorem impl_trim_L0.zero {α : Type} (N : Nat) (v671 : List Int) (k0 : List Int → Option α) : impl_trim_L0 N 0 v671 k0 = none := by rw [impl_trim_L0.eq]; rfl
theorem impl_trim_L0.succ {α : Type} (N n : Nat) (v671 : List Int) (k0 : List Int → Option α) : impl_trim_L0 N (n + 1) v671 k0 = impl_trim_L0r N (fun y0 => impl_trim_L0 N n y0 k0) k0 v671 := by rw [impl_trim_L0.eq]; rfl
/-- loop.example/pinfold/impl.trim -/
noncomputable def impl_trim.b {α : Type} (N : Nat) (a670 : List Int) (k0 : List Int → Option α) : Option α :=
  impl_trim_L0 N N a670
    (fun x681 =>
      k0 x681)
theorem impl_trim.ex : ∃ f : ((α : Type) → Nat → List Int → (List Int → Option α) → Option α), f = fun α => @impl_trim.b α := ⟨_, rfl⟩
noncomputable def impl_trim {α : Type} : Nat → List Int → (List Int → Option α) → Option α := Classical.choose impl_trim.ex α
theorem impl_trim.eq : @impl_trim = @impl_trim.b := funext fun α => congrFun (Classical.choose_spec impl_trim.ex) α

noncomputable def math_bits_Len64_J1.b {α : Type} (N : Nat) (v691 : Int) (v692 : Int) (k0 : Int → Int → Option α) : Option α :=
  let x693 := (decide ((4294967296 : Int) ≤ v691))
  bif x693 then
    let x694 := (shrI .u64 v691 (32 : Int))
    k0 x694 (32 : Int)
  else
    k0 v691 v692
theorem math_bits_Len64_J1.ex : ∃ f : ((α : Type) → Nat → Int → Int → (Int → Int → Option α) → Option α), f = fun α => @math_bits_Len64_J1.b α := ⟨_, rfl⟩
noncomputable def math_bits_Len64_J1 {α : Type} : Nat → Int → Int → (Int → Int → Option α) → Option α := Classical.choose math_bits_Len64_J1.ex α
theorem math_bits_Len64_J1.eq : @math_bits_Len64_J1 = @math_bits_Len64_J1.b := funext fun α => congrFun (Classical.choose_spec math_bits_Len64_J1.ex) α
noncomputable def math_bits_Len64_J4.b {α : Type} (N : Nat) (v697 : Int) (v698 : Int) (k0 : Int → Int → Option α) : Option α :=
  let x699 := (decide ((65536 : Int) ≤ v697))
  bif x699 then
    let x700 := (shrI .u64 v697 (16 : Int))
    let x701 := (IntKind.i64.wrap (v698 + (16 : Int)))
    k0 x700 x701
  else
    k0 v697 v698
theorem math_bits_Len64_J4.ex : ∃ f : ((α : Type) → Nat → Int → Int → (Int → Int → Option α) → Option α), f = fun α => @math_bits_Len64_J4.b α := ⟨_, rfl⟩
noncomputable def math_bits_Len64_J4 {α : Type} : Nat → Int → Int → (Int → Int → Option α) → Option α := Classical.choose math_bits_Len64_J4.ex α
theorem math_bits_Len64_J4.eq : @math_bits_Len64_J4 = @math_bits_Len64_J4.b := funext fun α => congrFun (Classical.choose_spec math_bits_Len64_J4.ex) α
noncomputable def math_bits_Len64_J7.b {α : Type} (N : Nat) (v704 : Int) (v705 : Int) (k0 : Int → Int → Option α) : Option α :=
  let x706 := (decide ((256 : Int) ≤ v704))
  bif x706 then
    let x707 := (shrI .u64 v704 (8 : Int))
    let x708 := (IntKind.i64.wrap (v705 + (8 : Int)))
    k0 x707 x708
  else
    k0 v704 v705
theorem math_bits_Len64_J7.ex : ∃ f : ((α : Type) → Nat → Int → Int → (Int → Int → Option α) → Option α), f = fun α => @math_bits_Len64_J7.b α := ⟨_, rfl⟩
noncomputable def math_bits_Len64_J7 {α : Type} : Nat → Int → Int → (Int → Int → Option α) → Option α := Classical.choose math_bits_Len64_J7.ex α
theorem math_bits_Len64_J7.eq : @math_bits_Len64_J7 = @math_bits_Len64_J7.b := funext fun α => congrFun (Classical.choose_spec math_bits_Len64_J7.ex) α
/-- math/bits.Len64 -/
noncomputable def math_bits_Len64.b {α : Type} (N : Nat) (a690 : Int) (k0 : Int → Option α) : Option α :=
  math_bits_Len64_J1 N a690 (0 : Int)
    (fun x695 x696 =>
      math_bits_Len64_J4 N x695 x696
        (fun x702 x703 =>
          math_bits_Len64_J7 N x702 x703
            (fun x709 x710 =>
              let x711 := IntKind.u8.wrap x709
              bif (decide (x711 < (0 : Int))) then
                none
              else
                match ((⟨#[0, 1, 2, 2, 3, 3, 3, 3, 4, 4, 4, 4, 4, 4, 4, 4, 5, 5, 5, 5, 5, 5, 5, 5, 5, 5, 5, 5, 5, 5, 5, 5, 6, 6, 6, 6, 6, 6, 6, 6, 6, 6, 6, 6, 6, 6, 6, 6, 6, 6, 6, 6, 6, 6, 6, 6, 6, 6, 6, 6, 6, 6, 6, 6, 7, 7, 7, 7, 7, 7, 7, 7, 7, 7, 7, 7, 7, 7, 7, 7, 7, 7, 7, 7, 7, 7, 7, 7, 7, 7, 7, 7, 7, 7, 7, 7, 7, 7, 7, 7, 7, 7, 7, 7, 7, 7, 7, 7, 7, 7, 7, 7, 7, 7, 7, 7, 7, 7, 7, 7, 7, 7, 7, 7, 7, 7, 7, 7, 8, 8, 8, 8, 8, 8, 8, 8, 8, 8, 8, 8, 8, 8, 8, 8, 8, 8, 8, 8, 8, 8, 8, 8, 8, 8, 8, 8, 8, 8, 8, 8, 8, 8, 8, 8, 8, 8, 8, 8, 8, 8, 8, 8, 8, 8, 8, 8, 8, 8, 8, 8, 8, 8, 8, 8, 8, 8, 8, 8, 8, 8, 8, 8, 8, 8, 8, 8, 8, 8, 8, 8, 8, 8, 8, 8, 8, 8, 8, 8, 8, 8, 8, 8, 8, 8, 8, 8, 8, 8, 8, 8, 8, 8, 8, 8, 8, 8, 8, 8, 8, 8, 8, 8, 8, 8, 8, 8, 8, 8, 8, 8, 8, 8, 8, 8, 8, 8, 8, 8, 8, 8, 8, 8, 8, 8, 8, 8]⟩ : ByteArray)[x711.toNat]? : Option UInt8) with
                | some x712 =>
                  let x713 := ((x712.toNat : Nat) : Int)
                  let x714 := IntKind.i64.wrap x713
                  let x715 := IntKind.i64.wrap (x710 + x714)
                  k0 x715
                | none => none)))
theorem math_bits_Len64.ex : ∃ f : ((α : Type) → Nat → Int → (Int → Option α) → Option α), f = fun α => @math_bits_Len64.b α := ⟨_, rfl⟩
noncomputable def math_bits_Len64 {α : Type} : Nat → Int → (Int → Option α) → Option α := Classical.choose math_bits_Len64.ex α
theorem math_bits_Len64.eq : @math_bits_Len64 = @math_bits_Len64.b := funext fun α => congrFun (Classical.choose_spec math_bits_Len64.ex) α

/-- math/bits.Len -/
noncomputable def math_bits_Len.b {α : Type} (N : Nat) (a689 : Int) (k0 : Int → Option α) : Option α :=
  math_bits_Len64 N a689
    (fun x716 =>
      k0 x716)
theorem math_bits_Len.ex : ∃ f : ((α : Type) → Nat → Int → (Int → Option α) → Option α), f = fun α => @math_bits_Len.b α := ⟨_, rfl⟩
noncomputable def math_bits_Len {α : Type} : Nat → Int → (Int → Option α) → Option α := Classical.choose math_bits_Len.ex α
theorem math_bits_Len.eq : @math_bits_Len = @math_bits_Len.b := funext fun α => congrFun (Classical.choose_spec math_bits_Len.ex) α

/-- slices.Clone[[]int,int] -/
noncomputable def slices_Clone_int_int {α : Type} (N : Nat) (a1 : List Int) (k0 : List Int → Option α) : Option α :=
  bif decide (([] : List Int).length + a1.length ≤ 8796093022208) then k0 a1 else none

noncomputable def impl_natShift_J10.b {α : Type} (N : Nat) (v795 : List Int) (v796 : Int) (v797 : Int) (v798 : Int) (v799 : Int) (v800 : Int) (v801 : List Int) (k0 : List Int → Int → Int → Int → Int → List Int → Option α) : Option α :=
  let x802 := IntKind.i64.wrap (v796 + v798)
  let x803 := (IntKind.i64.wrap (x802 + (1 : Int)))
  let x804 := ((v795.length : Nat) : Int)
  let x805 := decide (x803 < x804)
  bif x805 then
    bif (decide (v798 < (0 : Int))) then
      none
    else
      bif decide (v798.toNat < v801.length) then
        match v801[v798.toNat]? with
        | some x806 =>
          let x807 := IntKind.i64.wrap (v796 + v798)
          let x808 := (IntKind.i64.wrap (x807 + (1 : Int)))
          bif (decide (x808 < (0 : Int))) then
            none
          else
            match v795[x808.toNat]? with
            | some x809 =>
              let x810 := (IntKind.i64.wrap ((16 : Int) - v797))
              bif (decide (x810 < (0 : Int))) then
                none
              else
                let x811 := shlI .i64 x809 x810
                let x812 := (bitI .and .i64 x811 (65535 : Int))
                let x813 := bitI .or .i64 x806 x812
                bif (decide (v798 < (0 : Int))) then
                  none
                else
                  bif decide (v798.toNat < v801.length) then
                    match v801[v798.toNat]? with
                    | some x814 =>
                      let x815 := v801.set v798.toNat x813
                      k0 v795 v796 v797 v799 v800 x815
                    | none => none
                  else
                    none
            | none => none
        | none => none
      else
        none
  else
    k0 v795 v796 v797 v799 v800 v801
theorem impl_natShift_J10.ex : ∃ f : ((α : Type) → Nat → List Int → Int → Int → Int → Int → Int → List Int → (List Int → Int → Int → Int → Int → List Int → Option α) → Option α), f = fun α => @impl_natShift_J10.b α := ⟨_, rfl⟩
noncomputable def impl_natShift_J10 {α : Type} : Nat → List Int → Int → Int → Int → Int → Int → List Int → (List Int → Int → Int → Int → Int → List Int → Option α) → Option α := Classical.choose impl_natShift_J10.ex α
theorem impl_natShift_J10.eq : @impl_natShift_J10 = @impl_natShift_J10.b := funext fun α => congrFun (Classical.choose_spec impl_natShift_J10.ex) α
noncomputable def impl_natShift_L0r {α : Type} (N : Nat) (next : List Int → Int → Int → Int → Int → List Int → Option α) (k0 : List Int → Option α) (v784 : List Int) (v785 : Int) (v786 : Int) (v787 : Int) (v788 : Int) (v789 : List Int) : Option α :=
  let x790 := decide (v788 < v787)
  bif x790 then
    bif (decide (v788 < (0 : Int))) then
      none
    else
      bif decide (v788.toNat < v789.length) then
        match v789[v788.toNat]? with
        | some x791 =>
          bif (decide (v786 < (0 : Int))) then
            none
          else
            let x792 := shrI .i64 x791 v786
            bif (decide (v788 < (0 : Int))) then
              none
            else
              bif decide (v788.toNat < v789.length) then
                match v789[v788.toNat]? with
                | some x793 =>
                  let x794 := v789.set v788.toNat x792
                  impl_natShift_J10 N v784 v785 v786 v788 v787 v788 x794
                    (fun x816 x817 x818 x819 x820 x821 =>
                      let x822 := (IntKind.i64.wrap (x820 + (1 : Int)))
                      next x816 x817 x818 x819 x822 x821)
                | none => none
              else
                none
        | none => none
      else
        none
  else
    k0 v789
noncomputable def impl_natShift_L0.b {α : Type} (N n : Nat) (v784 : List Int) (v785 : Int) (v786 : Int) (v787 : Int) (v788 : Int) (v789 : List Int) (k0 : List Int → Option α) : Option α :=
  Nat.rec (motive := fun _ => List Int → Int → Int → Int → Int → List Int → Option α) (fun _ _ _ _ _ _ => none) (fun _ next => impl_natShift_L0r N next k0) n v784 v785 v786 v787 v788 v789
theorem impl_natShift_L0.ex : ∃ f : ((α : Type) → Nat → Nat → List Int → Int → Int → Int → Int → List Int → (List Int → Option α) → Option α), f = fun α => @impl_natShift_L0.b α := ⟨_, rfl⟩
noncomputable def impl_natShift_L0 {α : Type} : Nat → Nat → List Int → Int → Int → Int → Int → List Int → (List Int → Option α) → Option α := Classical.choose impl_natShift_L0.ex α
theorem impl_natShift_L0.eq : @impl_natShift_L0 = @impl_natShift_L0.b := funext fun α => congrFun (Classical.choose_spec impl_natShift_L0.ex) α
theorem impl_natShift_L0.zero {α : Type} (N : Nat) (v784 : List Int) (v785 : Int) (v786 : Int) (v787 : Int) (v788 : Int) (v789 : List Int) (k0 : List Int → Option α) : impl_natShift_L0 N 0 v784 v785 v786 v787 v788 v789 k0 = none := by rw [impl_natShift_L0.eq]; rfl
theorem impl_natShift_L0.succ {α : Type} (N n : Nat) (v784 : List Int) (v785 : Int) (v786 : Int) (v787 : Int) (v788 : Int) (v789 : List Int) (k0 : List Int → Option α) : impl_natShift_L0 N (n + 1) v784 v785 v786 v787 v788 v789 k0 = impl_natShift_L0r N (fun y0 y1 y2 y3 y4 y5 => impl_natShift_L0 N n y0 y1 y2 y3 y4 y5 k0) k0 v784 v785 v786 v787 v788 v789 := by rw [impl_natShift_L0.eq]; rfl
noncomputable def impl_natShift_L2r {α : Type} (N : Nat) (next : Int → List Int → Int → Int → List Int → Option α) (k0 : List Int → Option α) (v831 : Int) (v832 : List Int) (v833 : Int) (v834 : Int) (v835 : List Int) : Option α :=
  let x836 := decide (v834 < v833)
  bif x836 then
    bif (decide (v834 < (0 : Int))) then
      none
    else
      match v832[v834.toNat]? with
      | some x837 =>
        let x838 := (Int.tmod v831 (16 : Int))
        bif (decide (x838 < (0 : Int))) then
          none
        else
          let x839 := shlI .i64 x837 x838
          let x840 := (IntKind.i64.wrap (Int.tdiv v831 (16 : Int)))
          let x841 := IntKind.i64.wrap (x840 + v834)
          bif (decide (x841 < (0 : Int))) then
            none
          else
            bif decide (x841.toNat < v835.length) then
              match v835[x841.toNat]? with
              | some x842 =>
                let x843 := (bitI .and .i64 x839 (65535 : Int))
                let x844 := bitI .or .i64 x842 x843
                bif (decide (x841 < (0 : Int))) then
                  none
                else
                  bif decide (x841.toNat < v835.length) then
                    match v835[x841.toNat]? with
                    | some x845 =>
                      let x846 := v835.set x841.toNat x844
                      let x847 := (IntKind.i64.wrap (Int.tdiv v831 (16 : Int)))
                      let x848 := IntKind.i64.wrap (x847 + v834)
                      let x849 := (IntKind.i64.wrap (x848 + (1 : Int)))
                      let x850 := (shrI .i64 x839 (16 : Int))
                      bif (decide (x849 < (0 : Int))) then
                        none
                      else
                        bif decide (x849.toNat < x846.length) then
                          match x846[x849.toNat]? with
                          | some x851 =>
                            let x852 := x846.set x849.toNat x850
                            let x853 := (IntKind.i64.wrap (v834 + (1 : Int)))
                            next v831 v832 v833 x853 x852
                          | none => none
                        else
                          none
                    | none => none
                  else
                    none
              | none => none
            else
              none
      | none => none
  else
    k0 v835
noncomputable def impl_natShift_L2.b {α : Type} (N n : Nat) (v831 : Int) (v832 : List Int) (v833 : Int) (v834 : Int) (v835 : List Int) (k0 : List Int → Option α) : Option α :=
  Nat.rec (motive := fun _ => Int → List Int → Int → Int → List Int → Option α) (fun _ _ _ _ _ => none) (fun _ next => impl_natShift_L2r N next k0) n v831 v832 v833 v834 v835
theorem impl_natShift_L2.ex : ∃ f : ((α : Type) → Nat → Nat → Int → List Int → Int → Int → List Int → (List Int → Option α) → Option α), f = fun α => @impl_natShift_L2.b α := ⟨_, rfl⟩
noncomputable def impl_natShift_L2 {α : Type} : Nat → Nat → Int → List Int → Int → Int → List Int → (List Int → Option α) → Option α := Classical.choose impl_natShift_L2.ex α
theorem impl_natShift_L2.eq : @impl_natShift_L2 = @impl_natShift_L2.b := funext fun α => congrFun (Classical.choose_spec impl_natShift_L2.ex) α
theorem impl_natShift_L2.zero {α : Type} (N : Nat) (v831 : Int) (v832 : List Int) (v833 : Int) (v834 : Int) (v835 : List Int) (k0 : List Int → Option α) : impl_natShift_L2 N 0 v831 v832 v833 v834 v835 k0 = none := by rw [impl_natShift_L2.eq]; rfl
theorem impl_natShift_L2.succ {α : Type} (N n : Nat) (v831 : Int) (v832 : List Int) (v833 : Int) (v834 : Int) (v835 : List Int) (k0 : List Int → Option α) : impl_natShift_L2 N (n + 1) v831 v832 v833 v834 v835 k0 = impl_natShift_L2r N (fun y0 y1 y2 y3 y4 => impl_natShift_L2 N n y0 y1 y2 y3 y4 k0) k0 v831 v832 v833 v834 v835 := by rw [impl_natShift_L2.eq]; rfl
/-- loop.example/pinfold/impl.natShift -/
noncomputable def impl_natShift.b {α : Type} (N : Nat) (a772 : List Int) (a773 : Int) (k0 : List Int → Option α) : Option α :=
  let x774 := (decide (a773 < (0 : Int)))
  bif x774 then
    let x775 := IntKind.i64.wrap (0 - a773)
    let x776 := (IntKind.i64.wrap (Int.tdiv x775 (16 : Int)))
    let x777 := IntKind.i64.wrap (0 - a773)
    let x778 := (Int.tmod x777 (16 : Int))
    let x779 := ((a772.length : Nat) : Int)
    let x780 := decide (x779 ≤ x776)
    bif x780 then
      k0 []
    else
      bif (decide ((0 : Int) ≤ x776)) then
        bif (decide (x776 ≤ ((a772.length : Nat) : Int))) then
          let x781 := a772.drop x776.toNat
          slices_Clone_int_int N x781
            (fun x782 =>
              let x783 := ((x782.length : Nat) : Int)
              impl_natShift_L0 N N a772 x776 x778 x783 (0 : Int) x782
                (fun x823 =>
                  impl_trim N x823
                    (fun x824 =>
                      k0 x824)))
        else
          none
      else
        none
  else
    let x825 := (IntKind.i64.wrap (Int.tdiv a773 (16 : Int)))
    let x826 := ((a772.length : Nat) : Int)
    let x827 := IntKind.i64.wrap (x825 + x826)
    let x828 := (IntKind.i64.wrap (x827 + (1 : Int)))
    bif (decide ((0 : Int) ≤ x828)) then
      bif decide (x828 ≤ x828) then
        bif (decide (x828 ≤ ((8796093022208 : Nat) : Int))) then
          let x829 := (List.replicate x828.toNat (0 : Int))
          let x830 := ((a772.length : Nat) : Int)
          impl_natShift_L2 N N a773 a772 x830 (0 : Int) x829
            (fun x854 =>
              impl_trim N x854
                (fun x855 =>
                  k0 x855))
        else
          none
      else
        none
    else
      none
theorem impl_natShift.ex : ∃ f : ((α : Type) → Nat → List Int → Int → (List Int → Option α) → Option α), f = fun α => @impl_natShift.b α := ⟨_, rfl⟩
noncomputable def impl_natShift {α : Type} : Nat → List Int → Int → (List Int → Option α) → Option α := Classical.choose impl_natShift.ex α
theorem impl_natShift.eq : @impl_natShift = @impl_natShift.b := funext fun α => congrFun (Classical.choose_spec impl_natShift.ex) α

noncomputable def impl_natDiv_L0r {α : Type} (N : Nat) (next : List Int → List Int → Int → Int → List Int → Option α) (k0 : Int → List Int → Option α) (v652 : List Int) (v653 : List Int) (v654 : Int) (v655 : Int) (v656 : List Int) : Option α :=
  let x657 := (decide ((0 : Int) ≤ v655))
  bif x657 then
    let x658 := (shlI .i64 v654 (16 : Int))
    bif (decide (v655 < (0 : Int))) then
      none
    else
      match v652[v655.toNat]? with
      | some x659 =>
        let x660 := bitI .or .i64 x658 x659
        match v653[0]? with
        | some x661 =>
          bif (decide (x661 = (0 : Int))) then
            none
          else
            let x662 := IntKind.i64.wrap (Int.tdiv x660 x661)
            match v653[0]? with
            | some x663 =>
              bif (decide (x663 = (0 : Int))) then
                none
              else
                let x664 := Int.tmod x660 x663
                bif (decide (v655 < (0 : Int))) then
                  none
                else
                  bif decide (v655.toNat < v656.length) then
                    match v656[v655.toNat]? with
                    | some x665 =>
                      let x666 := v656.set v655.toNat x662
                      let x667 := (IntKind.i64.wrap (v655 - (1 : Int)))
                      next v652 v653 x664 x667 x666
                    | none => none
                  else
                    none
            | none => none
        | none => none
      | none => none
  else
    k0 v654 v656
noncomputable def impl_natDiv_L0.b {α : Type} (N n : Nat) (v652 : List Int) (v653 : List Int) (v654 : Int) (v655 : Int) (v656 : List Int) (k0 : Int → List Int → Option α) : Option α :=
  Nat.rec (motive := fun _ => List Int → List Int → Int → Int → List Int → Option α) (fun _ _ _ _ _ => none) (fun _ next => impl_natDiv_L0r N next k0) n v652 v653 v654 v655 v656
theorem impl_natDiv_L0.ex : ∃ f : ((α : Type) → Nat → Nat → List Int → List Int → Int → Int → List Int → (Int → List Int → Option α) → Option α), f = fun α => @impl_natDiv_L0.b α := ⟨_, rfl⟩
noncomputable def impl_natDiv_L0 {α : Type} : Nat → Nat → List Int → List Int → Int → Int → List Int → (Int → List Int → Option α) → Option α := Classical.choose impl_natDiv_L0.ex α
theorem impl_natDiv_L0.eq : @impl_natDiv_L0 = @impl_natDiv_L0.b := funext fun α => congrFun (Classical.choose_spec impl_natDiv_L0.ex) α
theorem impl_natDiv_L0.zero {α : Type} (N : Nat) (v652 : List Int) (v653 : List Int) (v654 : Int) (v655 : Int) (v656 : List Int) (k0 : Int → List Int → Option α) : impl_natDiv_L0 N 0 v652 v653 v654 v655 v656 k0 = none := by rw [impl_natDiv_L0.eq]; rfl
theorem impl_natDiv_L0.succ {α : Type} (N n : Nat) (v652 : List Int) (v653 : List Int) (v654 : Int) (v655 : Int) (v656 : List Int) (k0 : Int → List Int → Option α) : impl_natDiv_L0 N (n + 1) v652 v653 v654 v655 v656 k0 = impl_natDiv_L0r N (fun y0 y1 y2 y3 y4 => impl_natDiv_L0 N n y0 y1 y2 y3 y4 k0) k0 v652 v653 v654 v655 v656 := by rw [impl_natDiv_L0.eq]; rfl
noncomputable def impl_natDiv_L2r {α : Type} (N : Nat) (next : List Int → Int → List Int → Int → List Int → Option α) (k0 : Int → List Int → Int → List Int → Option α) (v862 : List Int) (v863 : Int) (v864 : List Int) (v865 : Int) (v866 : List Int) : Option α :=
  let x867 := ((v866.length : Nat) : Int)
  let x868 := ((v862.length : Nat) : Int)
  let x869 := (IntKind.i64.wrap (x868 + (1 : Int)))
  let x870 := decide (x867 < x869)
  bif x870 then
    let x871 := [(0 : Int)]
    bif decide (v866.length + x871.length ≤ 8796093022208) then
      let x872 := v866 ++ x871
      next v862 v863 v864 v865 x872
    else
      none
  else
    k0 v863 v864 v865 v866
noncomputable def impl_natDiv_L2.b {α : Type} (N n : Nat) (v862 : List Int) (v863 : Int) (v864 : List Int) (v865 : Int) (v866 : List Int) (k0 : Int → List Int → Int → List Int → Option α) : Option α :=
  Nat.rec (motive := fun _ => List Int → Int → List Int → Int → List Int → Option α) (fun _ _ _ _ _ => none) (fun _ next => impl_natDiv_L2r N next k0) n v862 v863 v864 v865 v866
theorem impl_natDiv_L2.ex : ∃ f : ((α : Type) → Nat → Nat → List Int → Int → List Int → Int → List Int → (Int → List Int → Int → List Int → Option α) → Option α), f = fun α => @impl_natDiv_L2.b α := ⟨_, rfl⟩
noncomputable def impl_natDiv_L2 {α : Type} : Nat → Nat → List Int → Int → List Int → Int → List Int → (Int → List Int → Int → List Int → Option α) → Option α := Classical.choose impl_natDiv_L2.ex α
theorem impl_natDiv_L2.eq : @impl_natDiv_L2 = @impl_natDiv_L2.b := funext fun α => congrFun (Classical.choose_spec impl_natDiv_L2.ex) α
theorem impl_natDiv_L2.zero {α : Type} (N : Nat) (v862 : List Int) (v863 : Int) (v864 : List Int) (v865 : Int) (v866 : List Int) (k0 : Int → List Int → Int → List Int → Option α) : impl_natDiv_L2 N 0 v862 v863 v864 v865 v866 k0 = none := by rw [impl_natDiv_L2.eq]; rfl
theorem impl_natDiv_L2.succ {α : Type} (N n : Nat) (v862 : List Int) (v863 : Int) (v864 : List Int) (v865 : Int) (v866 : List Int) (k0 : Int → List Int → Int → List Int → Option α) : impl_natDiv_L2 N (n + 1) v862 v863 v864 v865 v866 k0 = impl_natDiv_L2r N (fun y0 y1 y2 y3 y4 => impl_natDiv_L2 N n y0 y1 y2 y3 y4 k0) k0 v862 v863 v864 v865 v866 := by rw [impl_natDiv_L2.eq]; rfl
noncomputable def impl_natDiv_L6r {α : Type} (N : Nat) (next : Int → List Int → Int → Int → Int → Int → List Int → List Int → Option α) (k0 : Int → List Int → Int → Int → Int → List Int → List Int → Option α) (v903 : Int) (v904 : List Int) (v905 : Int) (v906 : Int) (v907 : Int) (v908 : Int) (v909 : List Int) (v910 : List Int) : Option α :=
  let x911 := (decide ((65536 : Int) ≤ v907))
  bif x911 then
    let x912 := (IntKind.i64.wrap (v907 - (1 : Int)))
    let x913 := (IntKind.i64.wrap (v905 - (1 : Int)))
    bif (decide (x913 < (0 : Int))) then
      none
    else
      match v904[x913.toNat]? with
      | some x914 =>
        let x915 := IntKind.i64.wrap (v908 + x914)
        let x916 := (decide ((65536 : Int) ≤ x915))
        bif x916 then
          k0 v903 v904 v905 v906 x912 v909 v910
        else
          next v903 v904 v905 v906 x912 x915 v909 v910
      | none => none
  else
    let x917 := (IntKind.i64.wrap (v905 - (2 : Int)))
    bif (decide (x917 < (0 : Int))) then
      none
    else
      match v904[x917.toNat]? with
      | some x918 =>
        let x919 := IntKind.i64.wrap (v907 * x918)
        let x920 := (shlI .i64 v908 (16 : Int))
        let x921 := IntKind.i64.wrap (v906 + v905)
        let x922 := (IntKind.i64.wrap (x921 - (2 : Int)))
        bif (decide (x922 < (0 : Int))) then
          none
        else
          bif decide (x922.toNat < v909.length) then
            match v909[x922.toNat]? with
            | some x923 =>
              let x924 := bitI .or .i64 x920 x923
              let x925 := decide (x924 < x919)
              bif x925 then
                let x926 := (IntKind.i64.wrap (v907 - (1 : Int)))
                let x927 := (IntKind.i64.wrap (v905 - (1 : Int)))
                bif (decide (x927 < (0 : Int))) then
                  none
                else
                  match v904[x927.toNat]? with
                  | some x928 =>
                    let x929 := IntKind.i64.wrap (v908 + x928)
                    let x930 := (decide ((65536 : Int) ≤ x929))
                    bif x930 then
                      k0 v903 v904 v905 v906 x926 v909 v910
                    else
                      next v903 v904 v905 v906 x926 x929 v909 v910
                  | none => none
              else
                k0 v903 v904 v905 v906 v907 v909 v910
            | none => none
          else
            none
      | none => none
noncomputable def impl_natDiv_L6.b {α : Type} (N n : Nat) (v903 : Int) (v904 : List Int) (v905 : Int) (v906 : Int) (v907 : Int) (v908 : Int) (v909 : List Int) (v910 : List Int) (k0 : Int → List Int → Int → Int → Int → List Int → List Int → Option α) : Option α :=
  Nat.rec (motive := fun _ => Int → List Int → Int → Int → Int → Int → List Int → List Int → Option α) (fun _ _ _ _ _ _ _ _ => none) (fun _ next => impl_natDiv_L6r N next k0) n v903 v904 v905 v906 v907 v908 v909 v910
theorem impl_natDiv_L6.ex : ∃ f : ((α : Type) → Nat → Nat → Int → List Int → Int → Int → Int → Int → List Int → List Int → (Int → List Int → Int → Int → Int → List Int → List Int → Option α) → Option α), f = fun α => @impl_natDiv_L6.b α := ⟨_, rfl⟩
noncomputable def impl_natDiv_L6 {α : Type} : Nat → Nat → Int → List Int → Int → Int → Int → Int → List Int → List Int → (Int → List Int → Int → Int → Int → List Int → List Int → Option α) → Option α := Classical.choose impl_natDiv_L6.ex α
theorem impl_natDiv_L6.eq : @impl_natDiv_L6 = @impl_natDiv_L6.b := funext fun α => congrFun (Classical.choose_spec impl_natDiv_L6.ex) α
theorem impl_natDiv_L6.zero {α : Type} (N : Nat) (v903 : Int) (v904 : List Int) (v905 : Int) (v906 : Int) (v907 : Int) (v908 : Int) (v909 : List Int) (v910 : List Int) (k0 : Int → List Int → Int → Int → Int → List Int → List Int → Option α) : impl_natDiv_L6 N 0 v903 v904 v905 v906 v907 v908 v909 v910 k0 = none := by rw [impl_natDiv_L6.eq]; rfl
theorem impl_natDiv_L6.succ {α : Type} (N n : Nat) (v903 : Int) (v904 : List Int) (v905 : Int) (v906 : Int) (v907 : Int) (v908 : Int) (v909 : List Int) (v910 : List Int) (k0 : Int → List Int → Int → Int → Int → List Int → List Int → Option α) : impl_natDiv_L6 N (n + 1) v903 v904 v905 v906 v907 v908 v909 v910 k0 = impl_natDiv_L6r N (fun y0 y1 y2 y3 y4 y5 y6 y7 => impl_natDiv_L6 N n y0 y1 y2 y3 y4 y5 y6 y7 k0) k0 v903 v904 v905 v906 v907 v908 v909 v910 := by rw [impl_natDiv_L6.eq]; rfl
noncomputable def impl_natDiv_J34.b {α : Type} (N : Nat) (v957 : Int) (v958 : List Int) (v959 : Int) (v960 : Int) (v961 : Int) (v962 : Int) (v963 : Int) (v964 : Int) (v965 : List Int) (v966 : Int) (v967 : Int) (v968 : List Int) (v969 : List Int) (k0 : Int → List Int → Int → Int → Int → Int → Int → Int → List Int → Int → Int → List Int → List Int → Option α) : Option α :=
  let x970 := (decide (v964 < (0 : Int)))
  bif x970 then
    let x971 := IntKind.i64.wrap (0 - v964)
    let x972 := (IntKind.i64.wrap (x971 + (65536 : Int)))
    let x973 := (IntKind.i64.wrap (x972 - (1 : Int)))
    let x974 := (IntKind.i64.wrap (Int.tdiv x973 (65536 : Int)))
    let x975 := (IntKind.i64.wrap (x974 * (65536 : Int)))
    let x976 := IntKind.i64.wrap (v964 + x975)
    k0 v957 v958 v959 v960 v961 x974 v963 x976 v965 v966 v967 v968 v969
  else
    k0 v957 v958 v959 v960 v961 v962 v963 v964 v965 v966 v967 v968 v969
theorem impl_natDiv_J34.ex : ∃ f : ((α : Type) → Nat → Int → List Int → Int → Int → Int → Int → Int → Int → List Int → Int → Int → List Int → List Int → (Int → List Int → Int → Int → Int → Int → Int → Int → List Int → Int → Int → List Int → List Int → Option α) → Option α), f = fun α => @impl_natDiv_J34.b α := ⟨_, rfl⟩
noncomputable def impl_natDiv_J34 {α : Type} : Nat → Int → List Int → Int → Int → Int → Int → Int → Int → List Int → Int → Int → List Int → List Int → (Int → List Int → Int → Int → Int → Int → Int → Int → List Int → Int → Int → List Int → List Int → Option α) → Option α := Classical.choose impl_natDiv_J34.ex α
theorem impl_natDiv_J34.eq : @impl_natDiv_J34 = @impl_natDiv_J34.b := funext fun α => congrFun (Classical.choose_spec impl_natDiv_J34.ex) α
noncomputable def impl_natDiv_L8r {α : Type} (N : Nat) (next : Int → List Int → Int → Int → Int → Int → List Int → Int → Int → List Int → List Int → Option α) (k0 : Int → List Int → Int → Int → Int → Int → List Int → List Int → Option α) (v939 : Int) (v940 : List Int) (v941 : Int) (v942 : Int) (v943 : Int) (v944 : Int) (v945 : List Int) (v946 : Int) (v947 : Int) (v948 : List Int) (v949 : List Int) : Option α :=
  let x950 := decide (v947 < v946)
  bif x950 then
    bif (decide (v947 < (0 : Int))) then
      none
    else
      match v945[v947.toNat]? with
      | some x951 =>
        let x952 := IntKind.i64.wrap (v942 + v947)
        bif (decide (x952 < (0 : Int))) then
          none
        else
          bif decide (x952.toNat < v948.length) then
            match v948[x952.toNat]? with
            | some x953 =>
              let x954 := IntKind.i64.wrap (x953 - v944)
              let x955 := IntKind.i64.wrap (v943 * x951)
              let x956 := IntKind.i64.wrap (x954 - x955)
              impl_natDiv_J34 N v939 v940 v941 v942 v943 (0 : Int) v947 x956 v945 v946 v947 v948 v949
                (fun x977 x978 x979 x980 x981 x982 x983 x984 x985 x986 x987 x988 x989 =>
                  let x990 := IntKind.i64.wrap (x980 + x983)
                  bif (decide (x990 < (0 : Int))) then
                    none
                  else
                    bif decide (x990.toNat < x988.length) then
                      match x988[x990.toNat]? with
                      | some x991 =>
                        let x992 := x988.set x990.toNat x984
                        let x993 := (IntKind.i64.wrap (x987 + (1 : Int)))
                        next x977 x978 x979 x980 x981 x982 x985 x986 x993 x992 x989
                      | none => none
                    else
                      none)
            | none => none
          else
            none
      | none => none
  else
    k0 v939 v940 v941 v942 v943 v944 v948 v949
noncomputable def impl_natDiv_L8.b {α : Type} (N n : Nat) (v939 : Int) (v940 : List Int) (v941 : Int) (v942 : Int) (v943 : Int) (v944 : Int) (v945 : List Int) (v946 : Int) (v947 : Int) (v948 : List Int) (v949 : List Int) (k0 : Int → List Int → Int → Int → Int → Int → List Int → List Int → Option α) : Option α :=
  Nat.rec (motive := fun _ => Int → List Int → Int → Int → Int → Int → List Int → Int → Int → List Int → List Int → Option α) (fun _ _ _ _ _ _ _ _ _ _ _ => none) (fun _ next => impl_natDiv_L8r N next k0) n v939 v940 v941 v942 v943 v944 v945 v946 v947 v948 v949
theorem impl_natDiv_L8.ex : ∃ f : ((α : Type) → Nat → Nat → Int → List Int → Int → Int → Int → Int → List Int → Int → Int → List Int → List Int → (Int → List Int → Int → Int → Int → Int → List Int → List Int → Option α) → Option α), f = fun α => @impl_natDiv_L8.b α := ⟨_, rfl⟩
noncomputable def impl_natDiv_L8 {α : Type} : Nat → Nat → Int → List Int → Int → Int → Int → Int → List Int → Int → Int → List Int → List Int → (Int → List Int → Int → Int → Int → Int → List Int → List Int → Option α) → Option α := Classical.choose impl_natDiv_L8.ex α
theorem impl_natDiv_L8.eq : @impl_natDiv_L8 = @impl_natDiv_L8.b := funext fun α => congrFun (Classical.choose_spec impl_natDiv_L8.ex) α
theorem impl_natDiv_L8.zero {α : Type} (N : Nat) (v939 : Int) (v940 : List Int) (v941 : Int) (v942 : Int) (v943 : Int) (v944 : Int) (v945 : List Int) (v946 : Int) (v947 : Int) (v948 : List Int) (v949 : List Int) (k0 : Int → List Int → Int → Int → Int → Int → List Int → List Int → Option α) : impl_natDiv_L8 N 0 v939 v940 v941 v942 v943 v944 v945 v946 v947 v948 v949 k0 = none := by rw [impl_natDiv_L8.eq]; rfl
theorem impl_natDiv_L8.succ {α : Type} (N n : Nat) (v939 : Int) (v940 : List Int) (v941 : Int) (v942 : Int) (v943 : Int) (v944 : Int) (v945 : List Int) (v946 : Int) (v947 : Int) (v948 : List Int) (v949 : List Int) (k0 : Int → List Int → Int → Int → Int → Int → List Int → List Int → Option α) : impl_natDiv_L8 N (n + 1) v939 v940 v941 v942 v943 v944 v945 v946 v947 v948 v949 k0 = impl_natDiv_L8r N (fun y0 y1 y2 y3 y4 y5 y6 y7 y8 y9 y10 => impl_natDiv_L8 N n y0 y1 y2 y3 y4 y5 y6 y7 y8 y9 y10 k0) k0 v939 v940 v941 v942 v943 v944 v945 v946 v947 v948 v949 := by rw [impl_natDiv_L8.eq]; rfl
noncomputable def impl_natDiv_L10r {α : Type} (N : Nat) (next : Int → List Int → Int → Int → Int → Int → List Int → Int → Int → List Int → List Int → Option α) (k0 : Int → List Int → Int → Int → Int → Int → List Int → List Int → Option α) (v1019 : Int) (v1020 : List Int) (v1021 : Int) (v1022 : Int) (v1023 : Int) (v1024 : Int) (v1025 : List Int) (v1026 : Int) (v1027 : Int) (v1028 : List Int) (v1029 : List Int) : Option α :=
  let x1030 := decide (v1027 < v1026)
  bif x1030 then
    bif (decide (v1027 < (0 : Int))) then
      none
    else
      match v1025[v1027.toNat]? with
      | some x1031 =>
        let x1032 := IntKind.i64.wrap (v1022 + v1027)
        bif (decide (x1032 < (0 : Int))) then
          none
        else
          bif decide (x1032.toNat < v1028.length) then
            match v1028[x1032.toNat]? with
            | some x1033 =>
              let x1034 := IntKind.i64.wrap (x1033 + x1031)
              let x1035 := IntKind.i64.wrap (x1034 + v1024)
              let x1036 := IntKind.i64.wrap (v1022 + v1027)
              let x1037 := (bitI .and .i64 x1035 (65535 : Int))
              let x1038 := (shrI .i64 x1035 (16 : Int))
              bif (decide (x1036 < (0 : Int))) then
                none
              else
                bif decide (x1036.toNat < v1028.length) then
                  match v1028[x1036.toNat]? with
                  | some x1039 =>
                    let x1040 := v1028.set x1036.toNat x1037
                    let x1041 := (IntKind.i64.wrap (v1027 + (1 : Int)))
                    next v1019 v1020 v1021 v1022 v1023 x1038 v1025 v1026 x1041 x1040 v1029
                  | none => none
                else
                  none
            | none => none
          else
            none
      | none => none
  else
    k0 v1019 v1020 v1021 v1022 v1023 v1024 v1028 v1029
noncomputable def impl_natDiv_L10.b {α : Type} (N n : Nat) (v1019 : Int) (v1020 : List Int) (v1021 : Int) (v1022 : Int) (v1023 : Int) (v1024 : Int) (v1025 : List Int) (v1026 : Int) (v1027 : Int) (v1028 : List Int) (v1029 : List Int) (k0 : Int → List Int → Int → Int → Int → Int → List Int → List Int → Option α) : Option α :=
  Nat.rec (motive := fun _ => Int → List Int → Int → Int → Int → Int → List Int → Int → Int → List Int → List Int → Option α) (fun _ _ _ _ _ _ _ _ _ _ _ => none) (fun _ next => impl_natDiv_L10r N next k0) n v1019 v1020 v1021 v1022 v1023 v1024 v1025 v1026 v1027 v1028 v1029
theorem impl_natDiv_L10.ex : ∃ f : ((α : Type) → Nat → Nat → Int → List Int → Int → Int → Int → Int → List Int → Int → Int → List Int → List Int → (Int → List Int → Int → Int → Int → Int → List Int → List Int → Option α) → Option α), f = fun α => @impl_natDiv_L10.b α := ⟨_, rfl⟩
noncomputable def impl_natDiv_L10 {α : Type} : Nat → Nat → Int → List Int → Int → Int → Int → Int → List Int → Int → Int → List Int → List Int → (Int → List Int → Int → Int → Int → Int → List Int → List Int → Option α) → Option α := Classical.choose impl_natDiv_L10.ex α
theorem impl_natDiv_L10.eq : @impl_natDiv_L10 = @impl_natDiv_L10.b := funext fun α => congrFun (Classical.choose_spec impl_natDiv_L10.ex) α
theorem impl_natDiv_L10.zero {α : Type} (N : Nat) (v1019 : Int) (v1020 : List Int) (v1021 : Int) (v1022 : Int) (v1023 : Int) (v1024 : Int) (v1025 : List Int) (v1026 : Int) (v1027 : Int) (v1028 : List Int) (v1029 : List Int) (k0 : Int → List Int → Int → Int → Int → Int → List Int → List Int → Option α) : impl_natDiv_L10 N 0 v1019 v1020 v1021 v1022 v1023 v1024 v1025 v1026 v1027 v1028 v1029 k0 = none := by rw [impl_natDiv_L10.eq]; rfl
theorem impl_natDiv_L10.succ {α : Type} (N n : Nat) (v1019 : Int) (v1020 : List Int) (v1021 : Int) (v1022 : Int) (v1023 : Int) (v1024 : Int) (v1025 : List Int) (v1026 : Int) (v1027 : Int) (v1028 : List Int) (v1029 : List Int) (k0 : Int → List Int → Int → Int → Int → Int → List Int → List Int → Option α) : impl_natDiv_L10 N (n + 1) v1019 v1020 v1021 v1022 v1023 v1024 v1025 v1026 v1027 v1028 v1029 k0 = impl_natDiv_L10r N (fun y0 y1 y2 y3 y4 y5 y6 y7 y8 y9 y10 => impl_natDiv_L10 N n y0 y1 y2 y3 y4 y5 y6 y7 y8 y9 y10 k0) k0 v1019 v1020 v1021 v1022 v1023 v1024 v1025 v1026 v1027 v1028 v1029 := by rw [impl_natDiv_L10.eq]; rfl
noncomputable def impl_natDiv_J40.b {α : Type} (N : Nat) (v1007 : Int) (v1008 : List Int) (v1009 : Int) (v1010 : Int) (v1011 : Int) (v1012 : List Int) (v1013 : List Int) (k0 : Int → List Int → Int → Int → Int → List Int → List Int → Option α) : Option α :=
  let x1014 := IntKind.i64.wrap (v1010 + v1009)
  bif (decide (x1014 < (0 : Int))) then
    none
  else
    bif decide (x1014.toNat < v1012.length) then
      match v1012[x1014.toNat]? with
      | some x1015 =>
        let x1016 := (decide (x1015 < (0 : Int)))
        bif x1016 then
          let x1017 := (IntKind.i64.wrap (v1011 - (1 : Int)))
          let x1018 := ((v1008.length : Nat) : Int)
          impl_natDiv_L10 N N v1007 v1008 v1009 v1010 x1017 (0 : Int) v1008 x1018 (0 : Int) v1012 v1013
            (fun x1042 x1043 x1044 x1045 x1046 x1047 x1048 x1049 =>
              let x1050 := IntKind.i64.wrap (x1045 + x1044)
              bif (decide (x1050 < (0 : Int))) then
                none
              else
                bif decide (x1050.toNat < x1048.length) then
                  match x1048[x1050.toNat]? with
                  | some x1051 =>
                    let x1052 := IntKind.i64.wrap (x1051 + x1047)
                    bif (decide (x1050 < (0 : Int))) then
                      none
                    else
                      bif decide (x1050.toNat < x1048.length) then
                        match x1048[x1050.toNat]? with
                        | some x1053 =>
                          let x1054 := x1048.set x1050.toNat x1052
                          k0 x1042 x1043 x1044 x1045 x1046 x1054 x1049
                        | none => none
                      else
                        none
                  | none => none
                else
                  none)
        else
          k0 v1007 v1008 v1009 v1010 v1011 v1012 v1013
      | none => none
    else
      none
theorem impl_natDiv_J40.ex : ∃ f : ((α : Type) → Nat → Int → List Int → Int → Int → Int → List Int → List Int → (Int → List Int → Int → Int → Int → List Int → List Int → Option α) → Option α), f = fun α => @impl_natDiv_J40.b α := ⟨_, rfl⟩
noncomputable def impl_natDiv_J40 {α : Type} : Nat → Int → List Int → Int → Int → Int → List Int → List Int → (Int → List Int → Int → Int → Int → List Int → List Int → Option α) → Option α := Classical.choose impl_natDiv_J40.ex α
theorem impl_natDiv_J40.eq : @impl_natDiv_J40 = @impl_natDiv_J40.b := funext fun α => congrFun (Classical.choose_spec impl_natDiv_J40.ex) α
noncomputable def impl_natDiv_L4r {α : Type} (N : Nat) (next : Int → List Int → Int → Int → List Int → List Int → Option α) (k0 : Int → List Int → List Int → Option α) (v883 : Int) (v884 : List Int) (v885 : Int) (v886 : Int) (v887 : List Int) (v888 : List Int) : Option α :=
  let x889 := (decide ((0 : Int) ≤ v886))
  bif x889 then
    let x890 := IntKind.i64.wrap (v886 + v885)
    bif (decide (x890 < (0 : Int))) then
      none
    else
      bif decide (x890.toNat < v887.length) then
        match v887[x890.toNat]? with
        | some x891 =>
          let x892 := (shlI .i64 x891 (16 : Int))
          let x893 := IntKind.i64.wrap (v886 + v885)
          let x894 := (IntKind.i64.wrap (x893 - (1 : Int)))
          bif (decide (x894 < (0 : Int))) then
            none
          else
            bif decide (x894.toNat < v887.length) then
              match v887[x894.toNat]? with
              | some x895 =>
                let x896 := bitI .or .i64 x892 x895
                let x897 := (IntKind.i64.wrap (v885 - (1 : Int)))
                bif (decide (x897 < (0 : Int))) then
                  none
                else
                  match v884[x897.toNat]? with
                  | some x898 =>
                    bif (decide (x898 = (0 : Int))) then
                      none
                    else
                      let x899 := IntKind.i64.wrap (Int.tdiv x896 x898)
                      let x900 := (IntKind.i64.wrap (v885 - (1 : Int)))
                      bif (decide (x900 < (0 : Int))) then
                        none
                      else
                        match v884[x900.toNat]? with
                        | some x901 =>
                          bif (decide (x901 = (0 : Int))) then
                            none
                          else
                            let x902 := Int.tmod x896 x901
                            impl_natDiv_L6 N N v883 v884 v885 v886 x899 x902 v887 v888
                              (fun x931 x932 x933 x934 x935 x936 x937 =>
                                let x938 := ((x932.length : Nat) : Int)
                                impl_natDiv_L8 N N x931 x932 x933 x934 x935 (0 : Int) x932 x938 (0 : Int) x936 x937
                                  (fun x994 x995 x996 x997 x998 x999 x1000 x1001 =>
                                    let x1002 := IntKind.i64.wrap (x997 + x996)
                                    bif (decide (x1002 < (0 : Int))) then
                                      none
                                    else
                                      bif decide (x1002.toNat < x1000.length) then
                                        match x1000[x1002.toNat]? with
                                        | some x1003 =>
                                          let x1004 := IntKind.i64.wrap (x1003 - x999)
                                          bif (decide (x1002 < (0 : Int))) then
                                            none
                                          else
                                            bif decide (x1002.toNat < x1000.length) then
                                              match x1000[x1002.toNat]? with
                                              | some x1005 =>
                                                let x1006 := x1000.set x1002.toNat x1004
                                                impl_natDiv_J40 N x994 x995 x996 x997 x998 x1006 x1001
                                                  (fun x1055 x1056 x1057 x1058 x1059 x1060 x1061 =>
                                                    bif (decide (x1058 < (0 : Int))) then
                                                      none
                                                    else
                                                      bif decide (x1058.toNat < x1061.length) then
                                                        match x1061[x1058.toNat]? with
                                                        | some x1062 =>
                                                          let x1063 := x1061.set x1058.toNat x1059
                                                          let x1064 := (IntKind.i64.wrap (x1058 - (1 : Int)))
                                                          next x1055 x1056 x1057 x1064 x1060 x1063
                                                        | none => none
                                                      else
                                                        none)
                                              | none => none
                                            else
                                              none
                                        | none => none
                                      else
                                        none))
                        | none => none
                  | none => none
              | none => none
            else
              none
        | none => none
      else
        none
  else
    k0 v883 v887 v888
noncomputable def impl_natDiv_L4.b {α : Type} (N n : Nat) (v883 : Int) (v884 : List Int) (v885 : Int) (v886 : Int) (v887 : List Int) (v888 : List Int) (k0 : Int → List Int → List Int → Option α) : Option α :=
  Nat.rec (motive := fun _ => Int → List Int → Int → Int → List Int → List Int → Option α) (fun _ _ _ _ _ _ => none) (fun _ next => impl_natDiv_L4r N next k0) n v883 v884 v885 v886 v887 v888
theorem impl_natDiv_L4.ex : ∃ f : ((α : Type) → Nat → Nat → Int → List Int → Int → Int → List Int → List Int → (Int → List Int → List Int → Option α) → Option α), f = fun α => @impl_natDiv_L4.b α := ⟨_, rfl⟩
noncomputable def impl_natDiv_L4 {α : Type} : Nat → Nat → Int → List Int → Int → Int → List Int → List Int → (Int → List Int → List Int → Option α) → Option α := Classical.choose impl_natDiv_L4.ex α
theorem impl_natDiv_L4.eq : @impl_natDiv_L4 = @impl_natDiv_L4.b := funext fun α => congrFun (Classical.choose_spec impl_natDiv_L4.ex) α
theorem impl_natDiv_L4.zero {α : Type} (N : Nat) (v883 : Int) (v884 : List Int) (v885 : Int) (v886 : Int) (v887 : List Int) (v888 : List Int) (k0 : Int → List Int → List Int → Option α) : impl_natDiv_L4 N 0 v883 v884 v885 v886 v887 v888 k0 = none := by rw [impl_natDiv_L4.eq]; rfl
theorem impl_natDiv_L4.succ {α : Type} (N n : Nat) (v883 : Int) (v884 : List Int) (v885 : Int) (v886 : Int) (v887 : List Int) (v888 : List Int) (k0 : Int → List Int → List Int → Option α) : impl_natDiv_L4 N (n + 1) v883 v884 v885 v886 v887 v888 k0 = impl_natDiv_L4r N (fun y0 y1 y2 y3 y4 y5 => impl_natDiv_L4 N n y0 y1 y2 y3 y4 y5 k0) k0 v883 v884 v885 v886 v887 v888 := by rw [impl_natDiv_L4.eq]; rfl
/-- loop.example/pinfold/impl.natDiv -/
noncomputable def impl_natDiv.b {α : Type} (N : Nat) (a616 : List Int) (a617 : List Int) (k0 : List Int → List Int → Option α) : Option α :=
  impl_natCmp N a616 a617
    (fun x644 =>
      let x645 := (decide (x644 < (0 : Int)))
      bif x645 then
        k0 [] a616
      else
        let x646 := ((a617.length : Nat) : Int)
        let x647 := (decide (x646 = (1 : Int)))
        bif x647 then
          let x648 := ((a616.length : Nat) : Int)
          bif (decide ((0 : Int) ≤ x648)) then
            bif decide (x648 ≤ x648) then
              bif (decide (x648 ≤ ((8796093022208 : Nat) : Int))) then
                let x649 := (List.replicate x648.toNat (0 : Int))
                let x650 := ((a616.length : Nat) : Int)
                let x651 := (IntKind.i64.wrap (x650 - (1 : Int)))
                impl_natDiv_L0 N N a616 a617 (0 : Int) x651 x649
                  (fun x668 x669 =>
                    impl_trim N x669
                      (fun x682 =>
                        let x683 := [x668]
                        impl_trim N x683
                          (fun x684 =>
                            k0 x682 x684)))
              else
                none
            else
              none
          else
            none
        else
          let x685 := ((a617.length : Nat) : Int)
          let x686 := (IntKind.i64.wrap (x685 - (1 : Int)))
          bif (decide (x686 < (0 : Int))) then
            none
          else
            match a617[x686.toNat]? with
            | some x687 =>
              let x688 := IntKind.u64.wrap x687
              math_bits_Len N x688
                (fun x717 =>
                  let x718 := (IntKind.i64.wrap ((16 : Int) - x717))
                  impl_natShift N a617 x718
                    (fun x856 =>
                      impl_natShift N a616 x718
                        (fun x857 =>
                          slices_Clone_int_int N x857
                            (fun x858 =>
                              let x859 := [(0 : Int)]
                              bif decide (x858.length + x859.length ≤ 8796093022208) then
                                let x860 := x858 ++ x859
                                let x861 := ((x856.length : Nat) : Int)
                                impl_natDiv_L2 N N a616 x718 x856 x861 x860
                                  (fun x873 x874 x875 x876 =>
                                    let x877 := ((x876.length : Nat) : Int)
                                    let x878 := IntKind.i64.wrap (x877 - x875)
                                    bif (decide ((0 : Int) ≤ x878)) then
                                      bif decide (x878 ≤ x878) then
                                        bif (decide (x878 ≤ ((8796093022208 : Nat) : Int))) then
                                          let x879 := (List.replicate x878.toNat (0 : Int))
                                          let x880 := ((x876.length : Nat) : Int)
                                          let x881 := IntKind.i64.wrap (x880 - x875)
                                          let x882 := (IntKind.i64.wrap (x881 - (1 : Int)))
                                          impl_natDiv_L4 N N x873 x874 x875 x882 x876 x879
                                            (fun x1065 x1066 x1067 =>
                                              impl_trim N x1067
                                                (fun x1068 =>
                                                  impl_trim N x1066
                                                    (fun x1069 =>
                                                      let x1070 := IntKind.i64.wrap (0 - x1065)
                                                      impl_natShift N x1069 x1070
                                                        (fun x1071 =>
                                                          k0 x1068 x1071))))
                                        else
                                          none
                                      else
                                        none
                                    else
                                      none)
                              else
                                none))))
            | none => none)
theorem impl_natDiv.ex : ∃ f : ((α : Type) → Nat → List Int → List Int → (List Int → List Int → Option α) → Option α), f = fun α => @impl_natDiv.b α := ⟨_, rfl⟩
noncomputable def impl_natDiv {α : Type} : Nat → List Int → List Int → (List Int → List Int → Option α) → Option α := Classical.choose impl_natDiv.ex α
theorem impl_natDiv.eq : @impl_natDiv = @impl_natDiv.b := funext fun α => congrFun (Classical.choose_spec impl_natDiv.ex) α

noncomputable def impl_natGcd_L0r {α : Type} (N : Nat) (next : List Int → List Int → Option α) (k0 : List Int → Option α) (v543 : List Int) (v544 : List Int) : Option α :=
  let x545 := ((v544.length : Nat) : Int)
  let x546 := (decide ((0 : Int) < x545))
  bif x546 then
    impl_natDiv N v543 v544
      (fun _ x1073 =>
        next v544 x1073)
  else
    k0 v543
noncomputable def impl_natGcd_L0.b {α : Type} (N n : Nat) (v543 : List Int) (v544 : List Int) (k0 : List Int → Option α) : Option α :=
  Nat.rec (motive := fun _ => List Int → List Int → Option α) (fun _ _ => none) (fun _ next => impl_natGcd_L0r N next k0) n v543 v544
theorem impl_natGcd_L0.ex : ∃ f : ((α : Type) → Nat → Nat → List Int → List Int → (List Int → Option α) → Option α), f = fun α => @impl_natGcd_L0.b α := ⟨_, rfl⟩
noncomputable def impl_natGcd_L0 {α : Type} : Nat → Nat → List Int → List Int → (List Int → Option α) → Option α := Classical.choose impl_natGcd_L0.ex α
theorem impl_natGcd_L0.eq : @impl_natGcd_L0 = @impl_natGcd_L0.b := funext fun α => congrFun (Classical.choose_spec impl_natGcd_L0.ex) α
theorem impl_natGcd_L0.zero {α : Type} (N : Nat) (v543 : List Int) (v544 : List Int) (k0 : List Int → Option α) : impl_natGcd_L0 N 0 v543 v544 k0 = none := by rw [impl_natGcd_L0.eq]; rfl
theorem impl_natGcd_L0.succ {α : Type} (N n : Nat) (v543 : List Int) (v544 : List Int) (k0 : List Int → Option α) : impl_natGcd_L0 N (n + 1) v543 v544 k0 = impl_natGcd_L0r N (fun y0 y1 => impl_natGcd_L0 N n y0 y1 k0) k0 v543 v544 := by rw [impl_natGcd_L0.eq]; rfl
/-- loop.example/pinfold/impl.natGcd -/
noncomputable def impl_natGcd.b {α : Type} (N : Nat) (a541 : List Int) (a542 : List Int) (k0 : List Int → Option α) : Option α :=
  impl_natGcd_L0 N N a541 a542
    (fun x1074 =>
      k0 x1074)
theorem impl_natGcd.ex : ∃ f : ((α : Type) → Nat → List Int → List Int → (List Int → Option α) → Option α), f = fun α => @impl_natGcd.b α := ⟨_, rfl⟩
noncomputable def impl_natGcd {α : Type} : Nat → List Int → List Int → (List Int → Option α) → Option α := Classical.choose impl_natGcd.ex α
theorem impl_natGcd.eq : @impl_natGcd = @impl_natGcd.b := funext fun α => congrFun (Classical.choose_spec impl_natGcd.ex) α

/-- loop.example/pinfold/impl.FracOk -/
noncomputable def impl_FracOk.b {α : Type} (N : Nat) (a481 : Bool × (List Int) × (List Int) × Unit) (k0 : Bool → Option α) : Option α :=
  let x482 := [a481.2.1, a481.2.2.1]
  impl_nats N x482
    (fun x536 =>
      bif x536 then
        let x537 := ((a481.2.2.1.length : Nat) : Int)
        let x538 := (decide ((0 : Int) < x537))
        bif x538 then
          let x539 := ((a481.2.1.length : Nat) : Int)
          let x540 := (decide ((0 : Int) < x539))
          bif x540 then
            impl_natGcd N a481.2.1 a481.2.2.1
              (fun x1075 =>
                let x1076 := [(1 : Int)]
                impl_natCmp N x1075 x1076
                  (fun x1077 =>
                    let x1078 := (decide (x1077 = (0 : Int)))
                    k0 x1078))
          else
            let x1079 := !a481.1
            bif x1079 then
              impl_natGcd N a481.2.1 a481.2.2.1
                (fun x1080 =>
                  let x1081 := [(1 : Int)]
                  impl_natCmp N x1080 x1081
                    (fun x1082 =>
                      let x1083 := (decide (x1082 = (0 : Int)))
                      k0 x1083))
            else
              k0 false
        else
          k0 false
      else
        k0 false)
theorem impl_FracOk.ex : ∃ f : ((α : Type) → Nat → (Bool × (List Int) × (List Int) × Unit) → (Bool → Option α) → Option α), f = fun α => @impl_FracOk.b α := ⟨_, rfl⟩
noncomputable def impl_FracOk {α : Type} : Nat → (Bool × (List Int) × (List Int) × Unit) → (Bool → Option α) → Option α := Classical.choose impl_FracOk.ex α
theorem impl_FracOk.eq : @impl_FracOk = @impl_FracOk.b := funext fun α => congrFun (Classical.choose_spec impl_FracOk.ex) α

/-- loop.example/pinfold/impl.natBits -/
noncomputable def impl_natBits.b {α : Type} (N : Nat) (a1221 : List Int) (k0 : Int → Option α) : Option α :=
  let x1222 := ((a1221.length : Nat) : Int)
  let x1223 := (decide (x1222 = (0 : Int)))
  bif x1223 then
    k0 (0 : Int)
  else
    let x1224 := ((a1221.length : Nat) : Int)
    let x1225 := (IntKind.i64.wrap (x1224 - (1 : Int)))
    let x1226 := (IntKind.i64.wrap ((16 : Int) * x1225))
    let x1227 := ((a1221.length : Nat) : Int)
    let x1228 := (IntKind.i64.wrap (x1227 - (1 : Int)))
    bif (decide (x1228 < (0 : Int))) then
      none
    else
      match a1221[x1228.toNat]? with
      | some x1229 =>
        let x1230 := IntKind.u64.wrap x1229
        math_bits_Len N x1230
          (fun x1231 =>
            let x1232 := IntKind.i64.wrap (x1226 + x1231)
            k0 x1232)
      | none => none
theorem impl_natBits.ex : ∃ f : ((α : Type) → Nat → List Int → (Int → Option α) → Option α), f = fun α => @impl_natBits.b α := ⟨_, rfl⟩
noncomputable def impl_natBits {α : Type} : Nat → List Int → (Int → Option α) → Option α := Classical.choose impl_natBits.ex α
theorem impl_natBits.eq : @impl_natBits = @impl_natBits.b := funext fun α => congrFun (Classical.choose_spec impl_natBits.ex) α

noncomputable def impl_natAdd_L0r {α : Type} (N : Nat) (next : List Int → Int → Int → List Int → Option α) (k0 : List Int → Option α) (v1251 : List Int) (v1252 : Int) (v1253 : Int) (v1254 : List Int) : Option α :=
  let x1255 := decide (v1253 < v1252)
  bif x1255 then
    bif (decide (v1253 < (0 : Int))) then
      none
    else
      match v1251[v1253.toNat]? with
      | some x1256 =>
        bif (decide (v1253 < (0 : Int))) then
          none
        else
          bif decide (v1253.toNat < v1254.length) then
            match v1254[v1253.toNat]? with
            | some x1257 =>
              let x1258 := IntKind.i64.wrap (x1257 + x1256)
              bif (decide (v1253 < (0 : Int))) then
                none
              else
                bif decide (v1253.toNat < v1254.length) then
                  match v1254[v1253.toNat]? with
                  | some x1259 =>
                    let x1260 := v1254.set v1253.toNat x1258
                    let x1261 := (IntKind.i64.wrap (v1253 + (1 : Int)))
                    next v1251 v1252 x1261 x1260
                  | none => none
                else
                  none
            | none => none
          else
            none
      | none => none
  else
    k0 v1254
noncomputable def impl_natAdd_L0.b {α : Type} (N n : Nat) (v1251 : List Int) (v1252 : Int) (v1253 : Int) (v1254 : List Int) (k0 : List Int → Option α) : Option α :=
  Nat.rec (motive := fun _ => List Int → Int → Int → List Int → Option α) (fun _ _ _ _ => none) (fun _ next => impl_natAdd_L0r N next k0) n v1251 v1252 v1253 v1254
theorem impl_natAdd_L0.ex : ∃ f : ((α : Type) → Nat → Nat → List Int → Int → Int → List Int → (List Int → Option α) → Option α), f = fun α => @impl_natAdd_L0.b α := ⟨_, rfl⟩
noncomputable def impl_natAdd_L0 {α : Type} : Nat → Nat → List Int → Int → Int → List Int → (List Int → Option α) → Option α := Classical.choose impl_natAdd_L0.ex α
theorem impl_natAdd_L0.eq : @impl_natAdd_L0 = @impl_natAdd_L0.b := funext fun α => congrFun (Classical.choose_spec impl_natAdd_L0.ex) α
theorem impl_natAdd_L0.zero {α : Type} (N : Nat) (v1251 : List Int) (v1252 : Int) (v1253 : Int) (v1254 : List Int) (k0 : List Int → Option α) : impl_natAdd_L0 N 0 v1251 v1252 v1253 v1254 k0 = none := by rw [impl_natAdd_L0.eq]; rfl
theorem impl_natAdd_L0.succ {α : Type} (N n : Nat) (v1251 : List Int) (v1252 : Int) (v1253 : Int) (v1254 : List Int) (k0 : List Int → Option α) : impl_natAdd_L0 N (n + 1) v1251 v1252 v1253 v1254 k0 = impl_natAdd_L0r N (fun y0 y1 y2 y3 => impl_natAdd_L0 N n y0 y1 y2 y3 k0) k0 v1251 v1252 v1253 v1254 := by rw [impl_natAdd_L0.eq]; rfl
noncomputable def impl_natAdd_L2r {α : Type} (N : Nat) (next : Int → Int → List Int → Option α) (k0 : List Int → Option α) (v1265 : Int) (v1266 : Int) (v1267 : List Int) : Option α :=
  let x1268 := decide (v1266 < v1265)
  bif x1268 then
    let x1269 := (IntKind.i64.wrap (v1266 + (1 : Int)))
    bif (decide (x1269 < (0 : Int))) then
      none
    else
      bif decide (x1269.toNat < v1267.length) then
        match v1267[x1269.toNat]? with
        | some x1270 =>
          bif (decide (v1266 < (0 : Int))) then
            none
          else
            bif decide (v1266.toNat < v1267.length) then
              match v1267[v1266.toNat]? with
              | some x1271 =>
                let x1272 := (shrI .i64 x1271 (16 : Int))
                let x1273 := IntKind.i64.wrap (x1270 + x1272)
                bif (decide (x1269 < (0 : Int))) then
                  none
                else
                  bif decide (x1269.toNat < v1267.length) then
                    match v1267[x1269.toNat]? with
                    | some x1274 =>
                      let x1275 := v1267.set x1269.toNat x1273
                      bif (decide (v1266 < (0 : Int))) then
                        none
                      else
                        bif decide (v1266.toNat < x1275.length) then
                          match x1275[v1266.toNat]? with
                          | some x1276 =>
                            let x1277 := (bitI .and .i64 x1276 (65535 : Int))
                            bif (decide (v1266 < (0 : Int))) then
                              none
                            else
                              bif decide (v1266.toNat < x1275.length) then
                                match x1275[v1266.toNat]? with
                                | some x1278 =>
                                  let x1279 := x1275.set v1266.toNat x1277
                                  let x1280 := (IntKind.i64.wrap (v1266 + (1 : Int)))
                                  next v1265 x1280 x1279
                                | none => none
                              else
                                none
                          | none => none
                        else
                          none
                    | none => none
                  else
                    none
              | none => none
            else
              none
        | none => none
      else
        none
  else
    k0 v1267
noncomputable def impl_natAdd_L2.b {α : Type} (N n : Nat) (v1265 : Int) (v1266 : Int) (v1267 : List Int) (k0 : List Int → Option α) : Option α :=
  Nat.rec (motive := fun _ => Int → Int → List Int → Option α) (fun _ _ _ => none) (fun _ next => impl_natAdd_L2r N next k0) n v1265 v1266 v1267
theorem impl_natAdd_L2.ex : ∃ f : ((α : Type) → Nat → Nat → Int → Int → List Int → (List Int → Option α) → Option α), f = fun α => @impl_natAdd_L2.b α := ⟨_, rfl⟩
noncomputable def impl_natAdd_L2 {α : Type} : Nat → Nat → Int → Int → List Int → (List Int → Option α) → Option α := Classical.choose impl_natAdd_L2.ex α
theorem impl_natAdd_L2.eq : @impl_natAdd_L2 = @impl_natAdd_L2.b := funext fun α => congrFun (Classical.choose_spec impl_natAdd_L2.ex) α
theorem impl_natAdd_L2.zero {α : Type} (N : Nat) (v1265 : Int) (v1266 : Int) (v1267 : List Int) (k0 : List Int → Option α) : impl_natAdd_L2 N 0 v1265 v1266 v1267 k0 = none := by rw [impl_natAdd_L2.eq]; rfl
theorem impl_natAdd_L2.succ {α : Type} (N n : Nat) (v1265 : Int) (v1266 : Int) (v1267 : List Int) (k0 : List Int → Option α) : impl_natAdd_L2 N (n + 1) v1265 v1266 v1267 k0 = impl_natAdd_L2r N (fun y0 y1 y2 => impl_natAdd_L2 N n y0 y1 y2 k0) k0 v1265 v1266 v1267 := by rw [impl_natAdd_L2.eq]; rfl
/-- loop.example/pinfold/impl.natAdd -/
noncomputable def impl_natAdd.b {α : Type} (N : Nat) (a1241 : List Int) (a1242 : List Int) (k0 : List Int → Option α) : Option α :=
  let x1243 := ((a1241.length : Nat) : Int)
  let x1244 := ((a1242.length : Nat) : Int)
  let x1245 := maxI x1243 x1244
  let x1246 := (IntKind.i64.wrap (x1245 + (1 : Int)))
  bif (decide ((0 : Int) ≤ x1246)) then
    bif decide (x1246 ≤ x1246) then
      bif (decide (x1246 ≤ ((8796093022208 : Nat) : Int))) then
        let x1247 := (List.replicate x1246.toNat (0 : Int))
        let x1248 := List.take (min a1241.length x1247.length) a1241 ++ List.drop (min a1241.length x1247.length) x1247
        let x1250 := ((a1242.length : Nat) : Int)
        impl_natAdd_L0 N N a1242 x1250 (0 : Int) x1248
          (fun x1262 =>
            let x1263 := ((x1262.length : Nat) : Int)
            let x1264 := (IntKind.i64.wrap (x1263 - (1 : Int)))
            impl_natAdd_L2 N N x1264 (0 : Int) x1262
              (fun x1281 =>
                impl_trim N x1281
                  (fun x1282 =>
                    k0 x1282)))
      else
        none
    else
      none
  else
    none
theorem impl_natAdd.ex : ∃ f : ((α : Type) → Nat → List Int → List Int → (List Int → Option α) → Option α), f = fun α => @impl_natAdd.b α := ⟨_, rfl⟩
noncomputable def impl_natAdd {α : Type} : Nat → List Int → List Int → (List Int → Option α) → Option α := Classical.choose impl_natAdd.ex α
theorem impl_natAdd.eq : @impl_natAdd = @impl_natAdd.b := funext fun α => congrFun (Classical.choose_spec impl_natAdd.ex) α

noncomputable def impl_natMul_L2r {α : Type} (N : Nat) (next : List Int → Int → Int → Int → List Int → Int → Int → List Int → Int → Int → List Int → Option α) (k0 : List Int → Int → Int → List Int → Int → Int → List Int → Option α) (v1303 : List Int) (v1304 : Int) (v1305 : Int) (v1306 : Int) (v1307 : List Int) (v1308 : Int) (v1309 : Int) (v1310 : List Int) (v1311 : Int) (v1312 : Int) (v1313 : List Int) : Option α :=
  let x1314 := decide (v1312 < v1311)
  bif x1314 then
    bif (decide (v1312 < (0 : Int))) then
      none
    else
      match v1310[v1312.toNat]? with
      | some x1315 =>
        let x1316 := IntKind.i64.wrap (v1304 + v1312)
        bif (decide (x1316 < (0 : Int))) then
          none
        else
          bif decide (x1316.toNat < v1313.length) then
            match v1313[x1316.toNat]? with
            | some x1317 =>
              let x1318 := IntKind.i64.wrap (v1305 * x1315)
              let x1319 := IntKind.i64.wrap (x1317 + x1318)
              let x1320 := IntKind.i64.wrap (x1319 + v1306)
              let x1321 := IntKind.i64.wrap (v1304 + v1312)
              let x1322 := (bitI .and .i64 x1320 (65535 : Int))
              bif (decide (x1321 < (0 : Int))) then
                none
              else
                bif decide (x1321.toNat < v1313.length) then
                  match v1313[x1321.toNat]? with
                  | some x1323 =>
                    let x1324 := v1313.set x1321.toNat x1322
                    let x1325 := (shrI .i64 x1320 (16 : Int))
                    let x1326 := (IntKind.i64.wrap (v1312 + (1 : Int)))
                    next v1303 v1304 v1305 x1325 v1307 v1308 v1309 v1310 v1311 x1326 x1324
                  | none => none
                else
                  none
            | none => none
          else
            none
      | none => none
  else
    k0 v1303 v1304 v1306 v1307 v1308 v1309 v1313
noncomputable def impl_natMul_L2.b {α : Type} (N n : Nat) (v1303 : List Int) (v1304 : Int) (v1305 : Int) (v1306 : Int) (v1307 : List Int) (v1308 : Int) (v1309 : Int) (v1310 : List Int) (v1311 : Int) (v1312 : Int) (v1313 : List Int) (k0 : List Int → Int → Int → List Int → Int → Int → List Int → Option α) : Option α :=
  Nat.rec (motive := fun _ => List Int → Int → Int → Int → List Int → Int → Int → List Int → Int → Int → List Int → Option α) (fun _ _ _ _ _ _ _ _ _ _ _ => none) (fun _ next => impl_natMul_L2r N next k0) n v1303 v1304 v1305 v1306 v1307 v1308 v1309 v1310 v1311 v1312 v1313
theorem impl_natMul_L2.ex : ∃ f : ((α : Type) → Nat → Nat → List Int → Int → Int → Int → List Int → Int → Int → List Int → Int → Int → List Int → (List Int → Int → Int → List Int → Int → Int → List Int → Option α) → Option α), f = fun α => @impl_natMul_L2.b α := ⟨_, rfl⟩
noncomputable def impl_natMul_L2 {α : Type} : Nat → Nat → List Int → Int → Int → Int → List Int → Int → Int → List Int → Int → Int → List Int → (List Int → Int → Int → List Int → Int → Int → List Int → Option α) → Option α := Classical.choose impl_natMul_L2.ex α
theorem impl_natMul_L2.eq : @impl_natMul_L2 = @impl_natMul_L2.b := funext fun α => congrFun (Classical.choose_spec impl_natMul_L2.ex) α
theorem impl_natMul_L2.zero {α : Type} (N : Nat) (v1303 : List Int) (v1304 : Int) (v1305 : Int) (v1306 : Int) (v1307 : List Int) (v1308 : Int) (v1309 : Int) (v1310 : List Int) (v1311 : Int) (v1312 : Int) (v1313 : List Int) (k0 : List Int → Int → Int → List Int → Int → Int → List Int → Option α) : impl_natMul_L2 N 0 v1303 v1304 v1305 v1306 v1307 v1308 v1309 v1310 v1311 v1312 v1313 k0 = none := by rw [impl_natMul_L2.eq]; rfl
theorem impl_natMul_L2.succ {α : Type} (N n : Nat) (v1303 : List Int) (v1304 : Int) (v1305 : Int) (v1306 : Int) (v1307 : List Int) (v1308 : Int) (v1309 : Int) (v1310 : List Int) (v1311 : Int) (v1312 : Int) (v1313 : List Int) (k0 : List Int → Int → Int → List Int → Int → Int → List Int → Option α) : impl_natMul_L2 N (n + 1) v1303 v1304 v1305 v1306 v1307 v1308 v1309 v1310 v1311 v1312 v1313 k0 = impl_natMul_L2r N (fun y0 y1 y2 y3 y4 y5 y6 y7 y8 y9 y10 => impl_natMul_L2 N n y0 y1 y2 y3 y4 y5 y6 y7 y8 y9 y10 k0) k0 v1303 v1304 v1305 v1306 v1307 v1308 v1309 v1310 v1311 v1312 v1313 := by rw [impl_natMul_L2.eq]; rfl
noncomputable def impl_natMul_L0r {α : Type} (N : Nat) (next : List Int → List Int → Int → Int → List Int → Option α) (k0 : List Int → Option α) (v1295 : List Int) (v1296 : List Int) (v1297 : Int) (v1298 : Int) (v1299 : List Int) : Option α :=
  let x1300 := decide (v1298 < v1297)
  bif x1300 then
    bif (decide (v1298 < (0 : Int))) then
      none
    else
      match v1296[v1298.toNat]? with
      | some x1301 =>
        let x1302 := ((v1295.length : Nat) : Int)
        impl_natMul_L2 N N v1295 v1298 x1301 (0 : Int) v1296 v1297 v1298 v1295 x1302 (0 : Int) v1299
          (fun x1327 x1328 x1329 x1330 x1331 x1332 x1333 =>
            let x1334 := ((x1327.length : Nat) : Int)
            let x1335 := IntKind.i64.wrap (x1328 + x1334)
            bif (decide (x1335 < (0 : Int))) then
              none
            else
              bif decide (x1335.toNat < x1333.length) then
                match x1333[x1335.toNat]? with
                | some x1336 =>
                  let x1337 := IntKind.i64.wrap (x1336 + x1329)
                  bif (decide (x1335 < (0 : Int))) then
                    none
                  else
                    bif decide (x1335.toNat < x1333.length) then
                      match x1333[x1335.toNat]? with
                      | some x1338 =>
                        let x1339 := x1333.set x1335.toNat x1337
                        let x1340 := (IntKind.i64.wrap (x1332 + (1 : Int)))
                        next x1327 x1330 x1331 x1340 x1339
                      | none => none
                    else
                      none
                | none => none
              else
                none)
      | none => none
  else
    k0 v1299
noncomputable def impl_natMul_L0.b {α : Type} (N n : Nat) (v1295 : List Int) (v1296 : List Int) (v1297 : Int) (v1298 : Int) (v1299 : List Int) (k0 : List Int → Option α) : Option α :=
  Nat.rec (motive := fun _ => List Int → List Int → Int → Int → List Int → Option α) (fun _ _ _ _ _ => none) (fun _ next => impl_natMul_L0r N next k0) n v1295 v1296 v1297 v1298 v1299
theorem impl_natMul_L0.ex : ∃ f : ((α : Type) → Nat → Nat → List Int → List Int → Int → Int → List Int → (List Int → Option α) → Option α), f = fun α => @impl_natMul_L0.b α := ⟨_, rfl⟩
noncomputable def impl_natMul_L0 {α : Type} : Nat → Nat → List Int → List Int → Int → Int → List Int → (List Int → Option α) → Option α := Classical.choose impl_natMul_L0.ex α
theorem impl_natMul_L0.eq : @impl_natMul_L0 = @impl_natMul_L0.b := funext fun α => congrFun (Classical.choose_spec impl_natMul_L0.ex) α
theorem impl_natMul_L0.zero {α : Type} (N : Nat) (v1295 : List Int) (v1296 : List Int) (v1297 : Int) (v1298 : Int) (v1299 : List Int) (k0 : List Int → Option α) : impl_natMul_L0 N 0 v1295 v1296 v1297 v1298 v1299 k0 = none := by rw [impl_natMul_L0.eq]; rfl
theorem impl_natMul_L0.succ {α : Type} (N n : Nat) (v1295 : List Int) (v1296 : List Int) (v1297 : Int) (v1298 : Int) (v1299 : List Int) (k0 : List Int → Option α) : impl_natMul_L0 N (n + 1) v1295 v1296 v1297 v1298 v1299 k0 = impl_natMul_L0r N (fun y0 y1 y2 y3 y4 => impl_natMul_L0 N n y0 y1 y2 y3 y4 k0) k0 v1295 v1296 v1297 v1298 v1299 := by rw [impl_natMul_L0.eq]; rfl
/-- loop.example/pinfold/impl.natMul -/
noncomputable def impl_natMul.b {α : Type} (N : Nat) (a1287 : List Int) (a1288 : List Int) (k0 : List Int → Option α) : Option α :=
  let x1289 := ((a1287.length : Nat) : Int)
  let x1290 := ((a1288.length : Nat) : Int)
  let x1291 := IntKind.i64.wrap (x1289 + x1290)
  let x1292 := (IntKind.i64.wrap (x1291 + (1 : Int)))
  bif (decide ((0 : Int) ≤ x1292)) then
    bif decide (x1292 ≤ x1292) then
      bif (decide (x1292 ≤ ((8796093022208 : Nat) : Int))) then
        let x1293 := (List.replicate x1292.toNat (0 : Int))
        let x1294 := ((a1287.length : Nat) : Int)
        impl_natMul_L0 N N a1288 a1287 x1294 (0 : Int) x1293
          (fun x1341 =>
            impl_trim N x1341
              (fun x1342 =>
                k0 x1342))
      else
        none
    else
      none
  else
    none
theorem impl_natMul.ex : ∃ f : ((α : Type) → Nat → List Int → List Int → (List Int → Option α) → Option α), f = fun α => @impl_natMul.b α := ⟨_, rfl⟩
noncomputable def impl_natMul {α : Type} : Nat → List Int → List Int → (List Int → Option α) → Option α := Classical.choose impl_natMul.ex α
theorem impl_natMul.eq : @impl_natMul = @impl_natMul.b := funext fun α => congrFun (Classical.choose_spec impl_natMul.ex) α

noncomputable def impl_natRoot_L0r {α : Type} (N : Nat) (next : List Int → List Int → Option α) (k0 : List Int → Bool → Option α) (v1237 : List Int) (v1238 : List Int) : Option α :=
  impl_natDiv N v1237 v1238
    (fun x1239 _ =>
      impl_natAdd N v1238 x1239
        (fun x1283 =>
          impl_natShift N x1283 (-1 : Int)
            (fun x1284 =>
              impl_natCmp N x1284 v1238
                (fun x1285 =>
                  let x1286 := (decide ((0 : Int) ≤ x1285))
                  bif x1286 then
                    impl_natMul N v1238 v1238
                      (fun x1343 =>
                        impl_natCmp N x1343 v1237
                          (fun x1344 =>
                            let x1345 := (decide (x1344 = (0 : Int)))
                            k0 v1238 x1345))
                  else
                    next v1237 x1284))))
noncomputable def impl_natRoot_L0.b {α : Type} (N n : Nat) (v1237 : List Int) (v1238 : List Int) (k0 : List Int → Bool → Option α) : Option α :=
  Nat.rec (motive := fun _ => List Int → List Int → Option α) (fun _ _ => none) (fun _ next => impl_natRoot_L0r N next k0) n v1237 v1238
theorem impl_natRoot_L0.ex : ∃ f : ((α : Type) → Nat → Nat → List Int → List Int → (List Int → Bool → Option α) → Option α), f = fun α => @impl_natRoot_L0.b α := ⟨_, rfl⟩
noncomputable def impl_natRoot_L0 {α : Type} : Nat → Nat → List Int → List Int → (List Int → Bool → Option α) → Option α := Classical.choose impl_natRoot_L0.ex α
theorem impl_natRoot_L0.eq : @impl_natRoot_L0 = @impl_natRoot_L0.b := funext fun α => congrFun (Classical.choose_spec impl_natRoot_L0.ex) α
theorem impl_natRoot_L0.zero {α : Type} (N : Nat) (v1237 : List Int) (v1238 : List Int) (k0 : List Int → Bool → Option α) : impl_natRoot_L0 N 0 v1237 v1238 k0 = none := by rw [impl_natRoot_L0.eq]; rfl
theorem impl_natRoot_L0.succ {α : Type} (N n : Nat) (v1237 : List Int) (v1238 : List Int) (k0 : List Int → Bool → Option α) : impl_natRoot_L0 N (n + 1) v1237 v1238 k0 = impl_natRoot_L0r N (fun y0 y1 => impl_natRoot_L0 N n y0 y1 k0) k0 v1237 v1238 := by rw [impl_natRoot_L0.eq]; rfl
/-- loop.example/pinfold/impl.natRoot -/
noncomputable def impl_natRoot.b {α : Type} (N : Nat) (a1217 : List Int) (k0 : List Int → Bool → Option α) : Option α :=
  let x1218 := ((a1217.length : Nat) : Int)
  let x1219 := (decide (x1218 = (0 : Int)))
  bif x1219 then
    k0 [] true
  else
    let x1220 := [(1 : Int)]
    impl_natBits N a1217
      (fun x1233 =>
        let x1234 := (IntKind.i64.wrap (x1233 + (1 : Int)))
        let x1235 := (IntKind.i64.wrap (Int.tdiv x1234 (2 : Int)))
        impl_natShift N x1220 x1235
          (fun x1236 =>
            impl_natRoot_L0 N N a1217 x1236
              (fun x1346 x1347 =>
                k0 x1346 x1347)))
theorem impl_natRoot.ex : ∃ f : ((α : Type) → Nat → List Int → (List Int → Bool → Option α) → Option α), f = fun α => @impl_natRoot.b α := ⟨_, rfl⟩
noncomputable def impl_natRoot {α : Type} : Nat → List Int → (List Int → Bool → Option α) → Option α := Classical.choose impl_natRoot.ex α
theorem impl_natRoot.eq : @impl_natRoot = @impl_natRoot.b := funext fun α => congrFun (Classical.choose_spec impl_natRoot.ex) α

/-- slices.Clip[[]int,int] -/
noncomputable def slices_Clip_int_int.b {α : Type} (N : Nat) (a1361 : List Int) (k0 : List Int → Option α) : Option α :=
  let x1362 := ((a1361.length : Nat) : Int)
  let x1363 := ((a1361.length : Nat) : Int)
  bif (decide ((0 : Int) ≤ x1363)) then
    bif (decide (x1363 ≤ ((a1361.length : Nat) : Int))) then
      bif (decide ((0 : Int) ≤ x1362)) then
        bif (decide (x1362 ≤ ((x1363.toNat : Nat) : Int))) then
          let x1364 := a1361.take x1362.toNat
          k0 x1364
        else
          none
      else
        none
    else
      none
  else
    none
theorem slices_Clip_int_int.ex : ∃ f : ((α : Type) → Nat → List Int → (List Int → Option α) → Option α), f = fun α => @slices_Clip_int_int.b α := ⟨_, rfl⟩
noncomputable def slices_Clip_int_int {α : Type} : Nat → List Int → (List Int → Option α) → Option α := Classical.choose slices_Clip_int_int.ex α
theorem slices_Clip_int_int.eq : @slices_Clip_int_int = @slices_Clip_int_int.b := funext fun α => congrFun (Classical.choose_spec slices_Clip_int_int.ex) α

/-- loop.example/pinfold/impl.clone[int] -/
noncomputable def impl_clone_int.b {α : Type} (N : Nat) (a1359 : List Int) (k0 : List Int → Option α) : Option α :=
  slices_Clone_int_int N a1359
    (fun x1360 =>
      slices_Clip_int_int N x1360
        (fun x1365 =>
          k0 x1365))
theorem impl_clone_int.ex : ∃ f : ((α : Type) → Nat → List Int → (List Int → Option α) → Option α), f = fun α => @impl_clone_int.b α := ⟨_, rfl⟩
noncomputable def impl_clone_int {α : Type} : Nat → List Int → (List Int → Option α) → Option α := Classical.choose impl_clone_int.ex α
theorem impl_clone_int.eq : @impl_clone_int = @impl_clone_int.b := funext fun α => congrFun (Classical.choose_spec impl_clone_int.ex) α

/-- loop.example/pinfold/impl.given -/
noncomputable def impl_given.b {α : Type} (N : Nat) (a1354 : Bool × (List Int) × (List Int) × Unit) (k0 : Bool → Bool → List Int → List Int → Option α) : Option α :=
  let x1355 := ((a1354.2.1.length : Nat) : Int)
  let x1356 := (decide ((256 : Int) < x1355))
  bif x1356 then
    k0 false false [] []
  else
    let x1357 := ((a1354.2.2.1.length : Nat) : Int)
    let x1358 := (decide ((256 : Int) < x1357))
    bif x1358 then
      k0 false false [] []
    else
      impl_clone_int N a1354.2.1
        (fun x1366 =>
          impl_clone_int N a1354.2.2.1
            (fun x1367 =>
              k0 a1354.1 true x1366 x1367))
theorem impl_given.ex : ∃ f : ((α : Type) → Nat → (Bool × (List Int) × (List Int) × Unit) → (Bool → Bool → List Int → List Int → Option α) → Option α), f = fun α => @impl_given.b α := ⟨_, rfl⟩
noncomputable def impl_given {α : Type} : Nat → (Bool × (List Int) × (List Int) × Unit) → (Bool → Bool → List Int → List Int → Option α) → Option α := Classical.choose impl_given.ex α
theorem impl_given.eq : @impl_given = @impl_given.b := funext fun α => congrFun (Classical.choose_spec impl_given.ex) α

/-- loop.example/pinfold/impl.FracRoot -/
noncomputable def impl_FracRoot.b {α : Type} (N : Nat) (a480 : Bool × (List Int) × (List Int) × Unit) (k0 : Bool → Bool → List Int → List Int → Option α) : Option α :=
  impl_FracOk N a480
    (fun x1084 =>
      let x1085 := !x1084
      bif x1085 then
        k0 false false [] []
      else
        bif a480.1 then
          k0 false false [] []
        else
          impl_natRoot N a480.2.1
            (fun x1348 x1349 =>
              impl_natRoot N a480.2.2.1
                (fun x1350 x1351 =>
                  let x1352 := !x1349
                  bif x1352 then
                    k0 false false [] []
                  else
                    let x1353 := !x1351
                    bif x1353 then
                      k0 false false [] []
                    else
                      impl_given N (false, (x1348, (x1350, ())))
                        (fun x1368 x1369 x1370 x1371 =>
                          k0 x1368 x1369 x1370 x1371))))
theorem impl_FracRoot.ex : ∃ f : ((α : Type) → Nat → (Bool × (List Int) × (List Int) × Unit) → (Bool → Bool → List Int → List Int → Option α) → Option α), f = fun α => @impl_FracRoot.b α := ⟨_, rfl⟩
noncomputable def impl_FracRoot {α : Type} : Nat → (Bool × (List Int) × (List Int) × Unit) → (Bool → Bool → List Int → List Int → Option α) → Option α := Classical.choose impl_FracRoot.ex α
theorem impl_FracRoot.eq : @impl_FracRoot = @impl_FracRoot.b := funext fun α => congrFun (Classical.choose_spec impl_FracRoot.ex) α

noncomputable def laws_eqIntS_L0r {α : Type} (N : Nat) (next : List Int → List Int → Int → Option α) (k0 : Bool → Option α) (k1 : Option α) (v1384 : List Int) (v1385 : List Int) (v1386 : Int) : Option α :=
  let x1387 := ((v1384.length : Nat) : Int)
  let x1388 := decide (v1386 < x1387)
  bif x1388 then
    bif (decide (v1386 < (0 : Int))) then
      none
    else
      match v1384[v1386.toNat]? with
      | some x1389 =>
        bif (decide (v1386 < (0 : Int))) then
          none
        else
          match v1385[v1386.toNat]? with
          | some x1390 =>
            let x1391 := !(decide (x1389 = x1390))
            bif x1391 then
              k0 false
            else
              let x1392 := (IntKind.i64.wrap (v1386 + (1 : Int)))
              next v1384 v1385 x1392
          | none => none
      | none => none
  else
    k1
noncomputable def laws_eqIntS_L0.b {α : Type} (N n : Nat) (v1384 : List Int) (v1385 : List Int) (v1386 : Int) (k0 : Bool → Option α) (k1 : Option α) : Option α :=
  Nat.rec (motive := fun _ => List Int → List Int → Int → Option α) (fun _ _ _ => none) (fun _ next => laws_eqIntS_L0r N next k0 k1) n v1384 v1385 v1386
theorem laws_eqIntS_L0.ex : ∃ f : ((α : Type) → Nat → Nat → List Int → List Int → Int → (Bool → Option α) → (Option α) → Option α), f = fun α => @laws_eqIntS_L0.b α := ⟨_, rfl⟩
noncomputable def laws_eqIntS_L0 {α : Type} : Nat → Nat → List Int → List Int → Int → (Bool → Option α) → (Option α) → Option α := Classical.choose laws_eqIntS_L0.ex α
theorem laws_eqIntS_L0.eq : @laws_eqIntS_L0 = @laws_eqIntS_L0.b := funext fun α => congrFun (Classical.choose_spec laws_eqIntS_L0.ex) α
theorem laws_eqIntS_L0.zero {α : Type} (N : Nat) (v1384 : List Int) (v1385 : List Int) (v1386 : Int) (k0 : Bool → Option α) (k1 : Option α) : laws_eqIntS_L0 N 0 v1384 v1385 v1386 k0 k1 = none := by rw [laws_eqIntS_L0.eq]; rfl
theorem laws_eqIntS_L0.succ {α : Type} (N n : Nat) (v1384 : List Int) (v1385 : List Int) (v1386 : Int) (k0 : Bool → Option α) (k1 : Option α) : laws_eqIntS_L0 N (n + 1) v1384 v1385 v1386 k0 k1 = laws_eqIntS_L0r N (fun y0 y1 y2 => laws_eqIntS_L0 N n y0 y1 y2 k0 k1) k0 k1 v1384 v1385 v1386 := by rw [laws_eqIntS_L0.eq]; rfl
/-- loop.example/pinfold/laws.eqIntS -/
noncomputable def laws_eqIntS.b {α : Type} (N : Nat) (a1379 : List Int) (a1380 : List Int) (k0 : Bool → Option α) : Option α :=
  let x1381 := ((a1379.length : Nat) : Int)
  let x1382 := ((a1380.length : Nat) : Int)
  let x1383 := !(decide (x1381 = x1382))
  bif x1383 then
    k0 false
  else
    laws_eqIntS_L0 N N a1379 a1380 (0 : Int)
      (fun x1393 =>
        k0 x1393)
      (
        k0 true)
theorem laws_eqIntS.ex : ∃ f : ((α : Type) → Nat → List Int → List Int → (Bool → Option α) → Option α), f = fun α => @laws_eqIntS.b α := ⟨_, rfl⟩
noncomputable def laws_eqIntS {α : Type} : Nat → List Int → List Int → (Bool → Option α) → Option α := Classical.choose laws_eqIntS.ex α
theorem laws_eqIntS.eq : @laws_eqIntS = @laws_eqIntS.b := funext fun α => congrFun (Classical.choose_spec laws_eqIntS.ex) α

/-- loop.example/pinfold/laws.eqFrac -/
noncomputable def laws_eqFrac.b {α : Type} (N : Nat) (a1376 : Bool × (List Int) × (List Int) × Unit) (a1377 : Bool × (List Int) × (List Int) × Unit) (k0 : Bool → Option α) : Option α :=
  let x1378 := !(a1376.1 == a1377.1)
  bif x1378 then
    k0 false
  else
    laws_eqIntS N a1376.2.1 a1377.2.1
      (fun x1394 =>
        let x1395 := !x1394
        bif x1395 then
          k0 false
        else
          laws_eqIntS N a1376.2.2.1 a1377.2.2.1
            (fun x1396 =>
              let x1397 := !x1396
              bif x1397 then
                k0 false
              else
                k0 true))
theorem laws_eqFrac.ex : ∃ f : ((α : Type) → Nat → (Bool × (List Int) × (List Int) × Unit) → (Bool × (List Int) × (List Int) × Unit) → (Bool → Option α) → Option α), f = fun α => @laws_eqFrac.b α := ⟨_, rfl⟩
noncomputable def laws_eqFrac {α : Type} : Nat → (Bool × (List Int) × (List Int) × Unit) → (Bool × (List Int) × (List Int) × Unit) → (Bool → Option α) → Option α := Classical.choose laws_eqFrac.ex α
theorem laws_eqFrac.eq : @laws_eqFrac = @laws_eqFrac.b := funext fun α => congrFun (Classical.choose_spec laws_eqFrac.ex) α

noncomputable def laws_markIntS_L0r {α : Type} (N : Nat) (next : Int → Int → List Int → Option α) (k0 : Int → List Int → Option α) (v1412 : Int) (v1413 : Int) (v1414 : List Int) : Option α :=
  let x1415 := ((v1414.length : Nat) : Int)
  let x1416 := decide (v1413 < x1415)
  bif x1416 then
    bif (decide (v1413 < (0 : Int))) then
      none
    else
      bif decide (v1413.toNat < v1414.length) then
        match v1414[v1413.toNat]? with
        | some x1417 =>
          let x1418 := v1414.set v1413.toNat v1412
          let x1419 := (IntKind.i64.wrap (v1412 + (1 : Int)))
          let x1420 := (IntKind.i64.wrap (v1413 + (1 : Int)))
          next x1419 x1420 x1418
        | none => none
      else
        none
  else
    k0 v1412 v1414
noncomputable def laws_markIntS_L0.b {α : Type} (N n : Nat) (v1412 : Int) (v1413 : Int) (v1414 : List Int) (k0 : Int → List Int → Option α) : Option α :=
  Nat.rec (motive := fun _ => Int → Int → List Int → Option α) (fun _ _ _ => none) (fun _ next => laws_markIntS_L0r N next k0) n v1412 v1413 v1414
theorem laws_markIntS_L0.ex : ∃ f : ((α : Type) → Nat → Nat → Int → Int → List Int → (Int → List Int → Option α) → Option α), f = fun α => @laws_markIntS_L0.b α := ⟨_, rfl⟩
noncomputable def laws_markIntS_L0 {α : Type} : Nat → Nat → Int → Int → List Int → (Int → List Int → Option α) → Option α := Classical.choose laws_markIntS_L0.ex α
theorem laws_markIntS_L0.eq : @laws_markIntS_L0 = @laws_markIntS_L0.b := funext fun α => congrFun (Classical.choose_spec laws_markIntS_L0.ex) α
theorem laws_markIntS_L0.zero {α : Type} (N : Nat) (v1412 : Int) (v1413 : Int) (v1414 : List Int) (k0 : Int → List Int → Option α) : laws_markIntS_L0 N 0 v1412 v1413 v1414 k0 = none := by rw [laws_markIntS_L0.eq]; rfl
theorem laws_markIntS_L0.succ {α : Type} (N n : Nat) (v1412 : Int) (v1413 : Int) (v1414 : List Int) (k0 : Int → List Int → Option α) : laws_markIntS_L0 N (n + 1) v1412 v1413 v1414 k0 = laws_markIntS_L0r N (fun y0 y1 y2 => laws_markIntS_L0 N n y0 y1 y2 k0) k0 v1412 v1413 v1414 := by rw [laws_markIntS_L0.eq]; rfl
/-- loop.example/pinfold/laws.markIntS -/
noncomputable def laws_markIntS.b {α : Type} (N : Nat) (a1410 : Int) (a1411 : List Int) (k0 : Int → List Int → Option α) : Option α :=
  laws_markIntS_L0 N N a1410 (0 : Int) a1411
    (fun x1421 x1422 =>
      k0 x1421 x1422)
theorem laws_markIntS.ex : ∃ f : ((α : Type) → Nat → Int → List Int → (Int → List Int → Option α) → Option α), f = fun α => @laws_markIntS.b α := ⟨_, rfl⟩
noncomputable def laws_markIntS {α : Type} : Nat → Int → List Int → (Int → List Int → Option α) → Option α := Classical.choose laws_markIntS.ex α
theorem laws_markIntS.eq : @laws_markIntS = @laws_markIntS.b := funext fun α => congrFun (Classical.choose_spec laws_markIntS.ex) α

/-- loop.example/pinfold/laws.markFrac -/
noncomputable def laws_markFrac.b {α : Type} (N : Nat) (a1406 : Bool) (a1407 : Int) (a1408 : List Int) (a1409 : List Int) (k0 : Int → List Int → List Int → Option α) : Option α :=
  laws_markIntS N a1407 a1408
    (fun x1423 x1424 =>
      laws_markIntS N x1423 a1409
        (fun x1425 x1426 =>
          k0 x1425 x1424 x1426))
theorem laws_markFrac.ex : ∃ f : ((α : Type) → Nat → Bool → Int → List Int → List Int → (Int → List Int → List Int → Option α) → Option α), f = fun α => @laws_markFrac.b α := ⟨_, rfl⟩
noncomputable def laws_markFrac {α : Type} : Nat → Bool → Int → List Int → List Int → (Int → List Int → List Int → Option α) → Option α := Classical.choose laws_markFrac.ex α
theorem laws_markFrac.eq : @laws_markFrac = @laws_markFrac.b := funext fun α => congrFun (Classical.choose_spec laws_markFrac.ex) α

noncomputable def laws_heldIntS_L0r {α : Type} (N : Nat) (next : List Int → Int → Int → Option α) (k0 : Int → Option α) (k1 : Int → Option α) (v1441 : List Int) (v1442 : Int) (v1443 : Int) : Option α :=
  let x1444 := ((v1441.length : Nat) : Int)
  let x1445 := decide (v1443 < x1444)
  bif x1445 then
    bif (decide (v1443 < (0 : Int))) then
      none
    else
      match v1441[v1443.toNat]? with
      | some x1446 =>
        let x1447 := !(decide (x1446 = v1442))
        bif x1447 then
          k0 (-1 : Int)
        else
          let x1448 := (IntKind.i64.wrap (v1442 + (1 : Int)))
          let x1449 := (IntKind.i64.wrap (v1443 + (1 : Int)))
          next v1441 x1448 x1449
      | none => none
  else
    k1 v1442
noncomputable def laws_heldIntS_L0.b {α : Type} (N n : Nat) (v1441 : List Int) (v1442 : Int) (v1443 : Int) (k0 : Int → Option α) (k1 : Int → Option α) : Option α :=
  Nat.rec (motive := fun _ => List Int → Int → Int → Option α) (fun _ _ _ => none) (fun _ next => laws_heldIntS_L0r N next k0 k1) n v1441 v1442 v1443
theorem laws_heldIntS_L0.ex : ∃ f : ((α : Type) → Nat → Nat → List Int → Int → Int → (Int → Option α) → (Int → Option α) → Option α), f = fun α => @laws_heldIntS_L0.b α := ⟨_, rfl⟩
noncomputable def laws_heldIntS_L0 {α : Type} : Nat → Nat → List Int → Int → Int → (Int → Option α) → (Int → Option α) → Option α := Classical.choose laws_heldIntS_L0.ex α
theorem laws_heldIntS_L0.eq : @laws_heldIntS_L0 = @laws_heldIntS_L0.b := funext fun α => congrFun (Classical.choose_spec laws_heldIntS_L0.ex) α
theorem laws_heldIntS_L0.zero {α : Type} (N : Nat) (v1441 : List Int) (v1442 : Int) (v1443 : Int) (k0 : Int → Option α) (k1 : Int → Option α) : laws_heldIntS_L0 N 0 v1441 v1442 v1443 k0 k1 = none := by rw [laws_heldIntS_L0.eq]; rfl
theorem laws_heldIntS_L0.succ {α : Type} (N n : Nat) (v1441 : List Int) (v1442 : Int) (v1443 : Int) (k0 : Int → Option α) (k1 : Int → Option α) : laws_heldIntS_L0 N (n + 1) v1441 v1442 v1443 k0 k1 = laws_heldIntS_L0r N (fun y0 y1 y2 => laws_heldIntS_L0 N n y0 y1 y2 k0 k1) k0 k1 v1441 v1442 v1443 := by rw [laws_heldIntS_L0.eq]; rfl
/-- loop.example/pinfold/laws.heldIntS -/
noncomputable def laws_heldIntS.b {α : Type} (N : Nat) (a1439 : List Int) (a1440 : Int) (k0 : Int → Option α) : Option α :=
  laws_heldIntS_L0 N N a1439 a1440 (0 : Int)
    (fun x1450 =>
      k0 x1450)
    (fun x1451 =>
      k0 x1451)
theorem laws_heldIntS.ex : ∃ f : ((α : Type) → Nat → List Int → Int → (Int → Option α) → Option α), f = fun α => @laws_heldIntS.b α := ⟨_, rfl⟩
noncomputable def laws_heldIntS {α : Type} : Nat → List Int → Int → (Int → Option α) → Option α := Classical.choose laws_heldIntS.ex α
theorem laws_heldIntS.eq : @laws_heldIntS = @laws_heldIntS.b := funext fun α => congrFun (Classical.choose_spec laws_heldIntS.ex) α

/-- loop.example/pinfold/laws.heldFrac -/
noncomputable def laws_heldFrac.b {α : Type} (N : Nat) (a1437 : Bool × (List Int) × (List Int) × Unit) (a1438 : Int) (k0 : Int → Option α) : Option α :=
  laws_heldIntS N a1437.2.1 a1438
    (fun x1452 =>
      let x1453 := (decide (x1452 < (0 : Int)))
      bif x1453 then
        k0 (-1 : Int)
      else
        laws_heldIntS N a1437.2.2.1 x1452
          (fun x1454 =>
            let x1455 := (decide (x1454 < (0 : Int)))
            bif x1455 then
              k0 (-1 : Int)
            else
              k0 x1454))
theorem laws_heldFrac.ex : ∃ f : ((α : Type) → Nat → (Bool × (List Int) × (List Int) × Unit) → Int → (Int → Option α) → Option α), f = fun α => @laws_heldFrac.b α := ⟨_, rfl⟩
noncomputable def laws_heldFrac {α : Type} : Nat → (Bool × (List Int) × (List Int) × Unit) → Int → (Int → Option α) → Option α := Classical.choose laws_heldFrac.ex α
theorem laws_heldFrac.eq : @laws_heldFrac = @laws_heldFrac.b := funext fun α => congrFun (Classical.choose_spec laws_heldFrac.ex) α

/-- loop.example/pinfold/laws.FnExactFracRoot -/
noncomputable def laws_FnExactFracRoot.b {α : Type} (N : Nat) (a1 : Bool × (List Int) × (List Int) × Unit) (k0 : Bool → Option α) : Option α :=
  laws_szFrac N a1 (1048576 : Int)
    (fun x13 =>
      let x14 := (decide (x13 < (0 : Int)))
      bif x14 then
        k0 true
      else
        laws_toFrac N a1
          (fun x31 x32 x33 =>
            spec_FracRoot N (x31, (x32, (x33, ())))
              (fun x473 x474 x475 x476 =>
                laws_toFrac N a1
                  (fun x477 x478 x479 =>
                    impl_FracRoot N (x477, (x478, (x479, ())))
                      (fun x1372 x1373 x1374 x1375 =>
                        laws_eqFrac N (x1372, (x1374, (x1375, ()))) (x473, (x475, (x476, ())))
                          (fun x1398 =>
                            let x1399 := !x1398
                            bif x1399 then
                              k0 false
                            else
                              let x1400 := !(x1373 == x474)
                              bif x1400 then
                                k0 false
                              else
                                laws_toFrac N a1
                                  (fun x1401 x1402 x1403 =>
                                    laws_eqFrac N (x477, (x478, (x479, ()))) (x1401, (x1402, (x1403, ())))
                                      (fun x1404 =>
                                        let x1405 := !x1404
                                        bif x1405 then
                                          k0 false
                                        else
                                          laws_markFrac N x477 (1 : Int) x478 x479
                                            (fun x1427 _ _ =>
                                              let x1430 := (decide (x1427 < (0 : Int)))
                                              bif x1430 then
                                                k0 false
                                              else
                                                laws_eqFrac N (x1372, (x1374, (x1375, ()))) (x473, (x475, (x476, ())))
                                                  (fun x1431 =>
                                                    let x1432 := !x1431
                                                    bif x1432 then
                                                      k0 false
                                                    else
                                                      let x1433 := !(x1373 == x474)
                                                      bif x1433 then
                                                        k0 false
                                                      else
                                                        laws_markFrac N x1372 (1 : Int) x1374 x1375
                                                          (fun x1434 x1435 x1436 =>
                                                            laws_heldFrac N (x1372, (x1435, (x1436, ()))) (1 : Int)
                                                              (fun x1456 =>
                                                                let x1457 := (decide (x1456 < (0 : Int)))
                                                                bif x1457 then
                                                                  k0 false
                                                                else
                                                                  let x1458 := !(decide (x1456 = x1434))
                                                                  bif x1458 then
                                                                    k0 false
                                                                  else
                                                                    laws_toFrac N a1
                                                                      (fun x1459 x1460 x1461 =>
                                                                        impl_FracRoot N (x1459, (x1460, (x1461, ())))
                                                                          (fun x1462 x1463 x1464 x1465 =>
                                                                            laws_eqFrac N (x1462, (x1464, (x1465, ()))) (x473, (x475, (x476, ())))
                                                                              (fun x1466 =>
                                                                                let x1467 := !x1466
                                                                                bif x1467 then
                                                                                  k0 false
                                                                                else
                                                                                  let x1468 := !(x1463 == x474)
                                                                                  bif x1468 then
                                                                                    k0 false
                                                                                  else
                                                                                    laws_heldFrac N (x1372, (x1435, (x1436, ()))) (1 : Int)
                                                                                      (fun x1469 =>
                                                                                        let x1470 := (decide (x1469 < (0 : Int)))
                                                                                        bif x1470 then
                                                                                          k0 false
                                                                                        else
                                                                                          let x1471 := !(decide (x1469 = x1434))
                                                                                          bif x1471 then
                                                                                            k0 false
                                                                                          else
                                                                                            k0 true))))))))))))))))
theorem laws_FnExactFracRoot.ex : ∃ f : ((α : Type) → Nat → (Bool × (List Int) × (List Int) × Unit) → (Bool → Option α) → Option α), f = fun α => @laws_FnExactFracRoot.b α := ⟨_, rfl⟩
noncomputable def laws_FnExactFracRoot {α : Type} : Nat → (Bool × (List Int) × (List Int) × Unit) → (Bool → Option α) → Option α := Classical.choose laws_FnExactFracRoot.ex α
theorem laws_FnExactFracRoot.eq : @laws_FnExactFracRoot = @laws_FnExactFracRoot.b := funext fun α => congrFun (Classical.choose_spec laws_FnExactFracRoot.ex) α

end
end Go.Proofs.YthjjaddhcdekjaaAm
