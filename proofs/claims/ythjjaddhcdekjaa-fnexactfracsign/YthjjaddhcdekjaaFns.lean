/-
  The functions that the program computes, as the abstract machine tells them. Printed by amp.py.
-/
import Derived.Test.YthjjaddhcdekjaaAmb
namespace Go.Proofs.YthjjaddhcdekjaaAm
open Go
noncomputable section
set_option linter.unusedVariables false
set_option linter.unusedSimpArgs false

/-- loop.example/pinfold/laws.szIntS -/
noncomputable def laws_szIntS.b {α : Type} (N : Nat) (a4 : List Int) (a5 : Int) (k0 : Int → Option α) : Option α :=
  let x6 := ((a4.length : Nat) : Int)
  let x7 := IntKind.i64.wrap (a5 - x6)
  let x8 := (decide (x7 < (0 : Int)))
  bif x8 then
    k0 (-1 : Int)
  else
    k0 x7
theorem laws_szIntS.ex : ∃ f : ((α : Type) → Nat → List Int → Int → (Int → Option α) → Option α), f = fun α => @laws_szIntS.b α := ⟨_, rfl⟩
noncomputable def laws_szIntS {α : Type} : Nat → List Int → Int → (Int → Option α) → Option α := Classical.choose laws_szIntS.ex α
theorem laws_szIntS.eq : @laws_szIntS = @laws_szIntS.b := funext fun α => congrFun (Classical.choose_spec laws_szIntS.ex) α

/-- loop.example/pinfold/laws.szFrac -/
noncomputable def laws_szFrac.b {α : Type} (N : Nat) (a2 : Bool × (List Int) × (List Int) × Unit) (a3 : Int) (k0 : Int → Option α) : Option α :=
  laws_szIntS N a2.2.1 a3
    (fun x9 =>
      let x10 := (decide (x9 < (0 : Int)))
      bif x10 then
        k0 (-1 : Int)
      else
        laws_szIntS N a2.2.2.1 x9
          (fun x11 =>
            let x12 := (decide (x11 < (0 : Int)))
            bif x12 then
              k0 (-1 : Int)
            else
              k0 x11))
theorem laws_szFrac.ex : ∃ f : ((α : Type) → Nat → (Bool × (List Int) × (List Int) × Unit) → Int → (Int → Option α) → Option α), f = fun α => @laws_szFrac.b α := ⟨_, rfl⟩
noncomputable def laws_szFrac {α : Type} : Nat → (Bool × (List Int) × (List Int) × Unit) → Int → (Int → Option α) → Option α := Classical.choose laws_szFrac.ex α
theorem laws_szFrac.eq : @laws_szFrac = @laws_szFrac.b := funext fun α => congrFun (Classical.choose_spec laws_szFrac.ex) α

noncomputable def laws_toIntS_L0r {α : Type} (N : Nat) (next : List Int → Int → List Int → Option α) (k0 : List Int → Option α) (v19 : List Int) (v20 : Int) (v21 : List Int) : Option α :=
  let x22 := ((v19.length : Nat) : Int)
  let x23 := decide (v20 < x22)
  bif x23 then
    bif (decide (v20 < (0 : Int))) then
      none
    else
      match v19[v20.toNat]? with
      | some x24 =>
        bif (decide (v20 < (0 : Int))) then
          none
        else
          bif decide (v20.toNat < v21.length) then
            match v21[v20.toNat]? with
            | some x25 =>
              let x26 := v21.set v20.toNat x24
              let x27 := (IntKind.i64.wrap (v20 + (1 : Int)))
              next v19 x27 x26
            | none => none
          else
            none
      | none => none
  else
    k0 v21
noncomputable def laws_toIntS_L0.b {α : Type} (N n : Nat) (v19 : List Int) (v20 : Int) (v21 : List Int) (k0 : List Int → Option α) : Option α :=
  Nat.rec (motive := fun _ => List Int → Int → List Int → Option α) (fun _ _ _ => none) (fun _ next => laws_toIntS_L0r N next k0) n v19 v20 v21
theorem laws_toIntS_L0.ex : ∃ f : ((α : Type) → Nat → Nat → List Int → Int → List Int → (List Int → Option α) → Option α), f = fun α => @laws_toIntS_L0.b α := ⟨_, rfl⟩
noncomputable def laws_toIntS_L0 {α : Type} : Nat → Nat → List Int → Int → List Int → (List Int → Option α) → Option α := Classical.choose laws_toIntS_L0.ex α
theorem laws_toIntS_L0.eq : @laws_toIntS_L0 = @laws_toIntS_L0.b := funext fun α => congrFun (Classical.choose_spec laws_toIntS_L0.ex) α
theorem laws_toIntS_L0.zero {α : Type} (N : Nat) (v19 : List Int) (v20 : Int) (v21 : List Int) (k0 : List Int → Option α) : laws_toIntS_L0 N 0 v19 v20 v21 k0 = none := by rw [laws_toIntS_L0.eq]; rfl
theorem laws_toIntS_L0.succ {α : Type} (N n : Nat) (v19 : List Int) (v20 : Int) (v21 : List Int) (k0 : List Int → Option α) : laws_toIntS_L0 N (n + 1) v19 v20 v21 k0 = laws_toIntS_L0r N (fun y0 y1 y2 => laws_toIntS_L0 N n y0 y1 y2 k0) k0 v19 v20 v21 := by rw [laws_toIntS_L0.eq]; rfl
/-- loop.example/pinfold/laws.toIntS -/
noncomputable def laws_toIntS.b {α : Type} (N : Nat) (a16 : List Int) (k0 : List Int → Option α) : Option α :=
  let x17 := ((a16.length : Nat) : Int)
  bif (decide ((0 : Int) ≤ x17)) then
    bif decide (x17 ≤ x17) then
      bif (decide (x17 ≤ ((8796093022208 : Nat) : Int))) then
        let x18 := (List.replicate x17.toNat (0 : Int))
        laws_toIntS_L0 N N a16 (0 : Int) x18
          (fun x28 =>
            k0 x28)
      else
        none
    else
      none
  else
    none
theorem laws_toIntS.ex : ∃ f : ((α : Type) → Nat → List Int → (List Int → Option α) → Option α), f = fun α => @laws_toIntS.b α := ⟨_, rfl⟩
noncomputable def laws_toIntS {α : Type} : Nat → List Int → (List Int → Option α) → Option α := Classical.choose laws_toIntS.ex α
theorem laws_toIntS.eq : @laws_toIntS = @laws_toIntS.b := funext fun α => congrFun (Classical.choose_spec laws_toIntS.ex) α

/-- loop.example/pinfold/laws.toFrac -/
noncomputable def laws_toFrac.b {α : Type} (N : Nat) (a15 : Bool × (List Int) × (List Int) × Unit) (k0 : Bool → List Int → List Int → Option α) : Option α :=
  laws_toIntS N a15.2.1
    (fun x29 =>
      laws_toIntS N a15.2.2.1
        (fun x30 =>
          k0 a15.1 x29 x30))
theorem laws_toFrac.ex : ∃ f : ((α : Type) → Nat → (Bool × (List Int) × (List Int) × Unit) → (Bool → List Int → List Int → Option α) → Option α), f = fun α => @laws_toFrac.b α := ⟨_, rfl⟩
noncomputable def laws_toFrac {α : Type} : Nat → (Bool × (List Int) × (List Int) × Unit) → (Bool → List Int → List Int → Option α) → Option α := Classical.choose laws_toFrac.ex α
theorem laws_toFrac.eq : @laws_toFrac = @laws_toFrac.b := funext fun α => congrFun (Classical.choose_spec laws_toFrac.ex) α

noncomputable def spec_NatOk_L0r {α : Type} (N : Nat) (next : List Int → Int → Option α) (k0 : Bool → Option α) (k1 : List Int → Option α) (v39 : List Int) (v40 : Int) : Option α :=
  let x41 := ((v39.length : Nat) : Int)
  let x42 := decide (v40 < x41)
  bif x42 then
    bif (decide (v40 < (0 : Int))) then
      none
    else
      match v39[v40.toNat]? with
      | some x43 =>
        let x44 := (decide (x43 < (0 : Int)))
        bif x44 then
          k0 false
        else
          bif (decide (v40 < (0 : Int))) then
            none
          else
            match v39[v40.toNat]? with
            | some x45 =>
              let x46 := (decide ((65536 : Int) ≤ x45))
              bif x46 then
                k0 false
              else
                let x47 := (IntKind.i64.wrap (v40 + (1 : Int)))
                next v39 x47
            | none => none
      | none => none
  else
    k1 v39
noncomputable def spec_NatOk_L0.b {α : Type} (N n : Nat) (v39 : List Int) (v40 : Int) (k0 : Bool → Option α) (k1 : List Int → Option α) : Option α :=
  Nat.rec (motive := fun _ => List Int → Int → Option α) (fun _ _ => none) (fun _ next => spec_NatOk_L0r N next k0 k1) n v39 v40
theorem spec_NatOk_L0.ex : ∃ f : ((α : Type) → Nat → Nat → List Int → Int → (Bool → Option α) → (List Int → Option α) → Option α), f = fun α => @spec_NatOk_L0.b α := ⟨_, rfl⟩
noncomputable def spec_NatOk_L0 {α : Type} : Nat → Nat → List Int → Int → (Bool → Option α) → (List Int → Option α) → Option α := Classical.choose spec_NatOk_L0.ex α
theorem spec_NatOk_L0.eq : @spec_NatOk_L0 = @spec_NatOk_L0.b := funext fun α => congrFun (Classical.choose_spec spec_NatOk_L0.ex) α
theorem spec_NatOk_L0.zero {α : Type} (N : Nat) (v39 : List Int) (v40 : Int) (k0 : Bool → Option α) (k1 : List Int → Option α) : spec_NatOk_L0 N 0 v39 v40 k0 k1 = none := by rw [spec_NatOk_L0.eq]; rfl
theorem spec_NatOk_L0.succ {α : Type} (N n : Nat) (v39 : List Int) (v40 : Int) (k0 : Bool → Option α) (k1 : List Int → Option α) : spec_NatOk_L0 N (n + 1) v39 v40 k0 k1 = spec_NatOk_L0r N (fun y0 y1 => spec_NatOk_L0 N n y0 y1 k0 k1) k0 k1 v39 v40 := by rw [spec_NatOk_L0.eq]; rfl
/-- loop.example/pinfold/spec.NatOk -/
noncomputable def spec_NatOk.b {α : Type} (N : Nat) (a36 : List Int) (k0 : Bool → Option α) : Option α :=
  let x37 := ((a36.length : Nat) : Int)
  let x38 := (decide ((256 : Int) < x37))
  bif x38 then
    k0 false
  else
    spec_NatOk_L0 N N a36 (0 : Int)
      (fun x48 =>
        k0 x48)
      (fun x49 =>
        let x50 := ((x49.length : Nat) : Int)
        let x51 := (decide (x50 = (0 : Int)))
        bif x51 then
          k0 true
        else
          let x52 := ((x49.length : Nat) : Int)
          let x53 := (IntKind.i64.wrap (x52 - (1 : Int)))
          bif (decide (x53 < (0 : Int))) then
            none
          else
            match x49[x53.toNat]? with
            | some x54 =>
              let x55 := (!(decide (x54 = (0 : Int))))
              k0 x55
            | none => none)
theorem spec_NatOk.ex : ∃ f : ((α : Type) → Nat → List Int → (Bool → Option α) → Option α), f = fun α => @spec_NatOk.b α := ⟨_, rfl⟩
noncomputable def spec_NatOk {α : Type} : Nat → List Int → (Bool → Option α) → Option α := Classical.choose spec_NatOk.ex α
theorem spec_NatOk.eq : @spec_NatOk = @spec_NatOk.b := funext fun α => congrFun (Classical.choose_spec spec_NatOk.ex) α

noncomputable def spec_l5Trim_L0r {α : Type} (N : Nat) (next : List Int → Int → Option α) (k0 : List Int → Int → Option α) (v68 : List Int) (v69 : Int) : Option α :=
  let x70 := (decide ((0 : Int) < v69))
  bif x70 then
    let x71 := (IntKind.i64.wrap (v69 - (1 : Int)))
    bif (decide (x71 < (0 : Int))) then
      none
    else
      match v68[x71.toNat]? with
      | some x72 =>
        let x73 := (decide (x72 = (0 : Int)))
        bif x73 then
          let x74 := (IntKind.i64.wrap (v69 - (1 : Int)))
          next v68 x74
        else
          k0 v68 v69
      | none => none
  else
    k0 v68 v69
noncomputable def spec_l5Trim_L0.b {α : Type} (N n : Nat) (v68 : List Int) (v69 : Int) (k0 : List Int → Int → Option α) : Option α :=
  Nat.rec (motive := fun _ => List Int → Int → Option α) (fun _ _ => none) (fun _ next => spec_l5Trim_L0r N next k0) n v68 v69
theorem spec_l5Trim_L0.ex : ∃ f : ((α : Type) → Nat → Nat → List Int → Int → (List Int → Int → Option α) → Option α), f = fun α => @spec_l5Trim_L0.b α := ⟨_, rfl⟩
noncomputable def spec_l5Trim_L0 {α : Type} : Nat → Nat → List Int → Int → (List Int → Int → Option α) → Option α := Classical.choose spec_l5Trim_L0.ex α
theorem spec_l5Trim_L0.eq : @spec_l5Trim_L0 = @spec_l5Trim_L0.b := funext fun α => congrFun (Classical.choose_spec spec_l5Trim_L0.ex) α
theorem spec_l5Trim_L0.zero {α : Type} (N : Nat) (v68 : List Int) (v69 : Int) (k0 : List Int → Int → Option α) : spec_l5Trim_L0 N 0 v68 v69 k0 = none := by rw [spec_l5Trim_L0.eq]; rfl
theorem spec_l5Trim_L0.succ {α : Type} (N n : Nat) (v68 : List Int) (v69 : Int) (k0 : List Int → Int → Option α) : spec_l5Trim_L0 N (n + 1) v68 v69 k0 = spec_l5Trim_L0r N (fun y0 y1 => spec_l5Trim_L0 N n y0 y1 k0) k0 v68 v69 := by rw [spec_l5Trim_L0.eq]; rfl
noncomputable def spec_l5Trim_L2r {α : Type} (N : Nat) (next : List Int → Int → Int → List Int → Option α) (k0 : List Int → Option α) (v77 : List Int) (v78 : Int) (v79 : Int) (v80 : List Int) : Option α :=
  let x81 := decide (v79 < v78)
  bif x81 then
    bif (decide (v79 < (0 : Int))) then
      none
    else
      match v77[v79.toNat]? with
      | some x82 =>
        let x83 := [x82]
        bif decide (v80.length + x83.length ≤ 8796093022208) then
          let x84 := v80 ++ x83
          let x85 := (IntKind.i64.wrap (v79 + (1 : Int)))
          next v77 v78 x85 x84
        else
          none
      | none => none
  else
    k0 v80
noncomputable def spec_l5Trim_L2.b {α : Type} (N n : Nat) (v77 : List Int) (v78 : Int) (v79 : Int) (v80 : List Int) (k0 : List Int → Option α) : Option α :=
  Nat.rec (motive := fun _ => List Int → Int → Int → List Int → Option α) (fun _ _ _ _ => none) (fun _ next => spec_l5Trim_L2r N next k0) n v77 v78 v79 v80
theorem spec_l5Trim_L2.ex : ∃ f : ((α : Type) → Nat → Nat → List Int → Int → Int → List Int → (List Int → Option α) → Option α), f = fun α => @spec_l5Trim_L2.b α := ⟨_, rfl⟩
noncomputable def spec_l5Trim_L2 {α : Type} : Nat → Nat → List Int → Int → Int → List Int → (List Int → Option α) → Option α := Classical.choose spec_l5Trim_L2.ex α
theorem spec_l5Trim_L2.eq : @spec_l5Trim_L2 = @spec_l5Trim_L2.b := funext fun α => congrFun (Classical.choose_spec spec_l5Trim_L2.ex) α
theorem spec_l5Trim_L2.zero {α : Type} (N : Nat) (v77 : List Int) (v78 : Int) (v79 : Int) (v80 : List Int) (k0 : List Int → Option α) : spec_l5Trim_L2 N 0 v77 v78 v79 v80 k0 = none := by rw [spec_l5Trim_L2.eq]; rfl
theorem spec_l5Trim_L2.succ {α : Type} (N n : Nat) (v77 : List Int) (v78 : Int) (v79 : Int) (v80 : List Int) (k0 : List Int → Option α) : spec_l5Trim_L2 N (n + 1) v77 v78 v79 v80 k0 = spec_l5Trim_L2r N (fun y0 y1 y2 y3 => spec_l5Trim_L2 N n y0 y1 y2 y3 k0) k0 v77 v78 v79 v80 := by rw [spec_l5Trim_L2.eq]; rfl
/-- loop.example/pinfold/spec.l5Trim -/
noncomputable def spec_l5Trim.b {α : Type} (N : Nat) (a66 : List Int) (k0 : List Int → Option α) : Option α :=
  let x67 := ((a66.length : Nat) : Int)
  spec_l5Trim_L0 N N a66 x67
    (fun x75 x76 =>
      spec_l5Trim_L2 N N x75 x76 (0 : Int) []
        (fun x86 =>
          k0 x86))
theorem spec_l5Trim.ex : ∃ f : ((α : Type) → Nat → List Int → (List Int → Option α) → Option α), f = fun α => @spec_l5Trim.b α := ⟨_, rfl⟩
noncomputable def spec_l5Trim {α : Type} : Nat → List Int → (List Int → Option α) → Option α := Classical.choose spec_l5Trim.ex α
theorem spec_l5Trim.eq : @spec_l5Trim = @spec_l5Trim.b := funext fun α => congrFun (Classical.choose_spec spec_l5Trim.ex) α

noncomputable def spec_l5Cmp_L0r {α : Type} (N : Nat) (next : List Int → List Int → Int → Option α) (k0 : Int → Option α) (k1 : Option α) (v105 : List Int) (v106 : List Int) (v107 : Int) : Option α :=
  let x108 := (decide ((0 : Int) ≤ v107))
  bif x108 then
    bif (decide (v107 < (0 : Int))) then
      none
    else
      match v105[v107.toNat]? with
      | some x109 =>
        bif (decide (v107 < (0 : Int))) then
          none
        else
          match v106[v107.toNat]? with
          | some x110 =>
            let x111 := decide (x109 < x110)
            bif x111 then
              k0 (-1 : Int)
            else
              bif (decide (v107 < (0 : Int))) then
                none
              else
                match v105[v107.toNat]? with
                | some x112 =>
                  bif (decide (v107 < (0 : Int))) then
                    none
                  else
                    match v106[v107.toNat]? with
                    | some x113 =>
                      let x114 := decide (x113 < x112)
                      bif x114 then
                        k0 (1 : Int)
                      else
                        let x115 := (IntKind.i64.wrap (v107 - (1 : Int)))
                        next v105 v106 x115
                    | none => none
                | none => none
          | none => none
      | none => none
  else
    k1
noncomputable def spec_l5Cmp_L0.b {α : Type} (N n : Nat) (v105 : List Int) (v106 : List Int) (v107 : Int) (k0 : Int → Option α) (k1 : Option α) : Option α :=
  Nat.rec (motive := fun _ => List Int → List Int → Int → Option α) (fun _ _ _ => none) (fun _ next => spec_l5Cmp_L0r N next k0 k1) n v105 v106 v107
theorem spec_l5Cmp_L0.ex : ∃ f : ((α : Type) → Nat → Nat → List Int → List Int → Int → (Int → Option α) → (Option α) → Option α), f = fun α => @spec_l5Cmp_L0.b α := ⟨_, rfl⟩
noncomputable def spec_l5Cmp_L0 {α : Type} : Nat → Nat → List Int → List Int → Int → (Int → Option α) → (Option α) → Option α := Classical.choose spec_l5Cmp_L0.ex α
theorem spec_l5Cmp_L0.eq : @spec_l5Cmp_L0 = @spec_l5Cmp_L0.b := funext fun α => congrFun (Classical.choose_spec spec_l5Cmp_L0.ex) α
theorem spec_l5Cmp_L0.zero {α : Type} (N : Nat) (v105 : List Int) (v106 : List Int) (v107 : Int) (k0 : Int → Option α) (k1 : Option α) : spec_l5Cmp_L0 N 0 v105 v106 v107 k0 k1 = none := by rw [spec_l5Cmp_L0.eq]; rfl
theorem spec_l5Cmp_L0.succ {α : Type} (N n : Nat) (v105 : List Int) (v106 : List Int) (v107 : Int) (k0 : Int → Option α) (k1 : Option α) : spec_l5Cmp_L0 N (n + 1) v105 v106 v107 k0 k1 = spec_l5Cmp_L0r N (fun y0 y1 y2 => spec_l5Cmp_L0 N n y0 y1 y2 k0 k1) k0 k1 v105 v106 v107 := by rw [spec_l5Cmp_L0.eq]; rfl
/-- loop.example/pinfold/spec.l5Cmp -/
noncomputable def spec_l5Cmp.b {α : Type} (N : Nat) (a95 : List Int) (a96 : List Int) (k0 : Int → Option α) : Option α :=
  let x97 := ((a95.length : Nat) : Int)
  let x98 := ((a96.length : Nat) : Int)
  let x99 := decide (x97 < x98)
  bif x99 then
    k0 (-1 : Int)
  else
    let x100 := ((a95.length : Nat) : Int)
    let x101 := ((a96.length : Nat) : Int)
    let x102 := decide (x101 < x100)
    bif x102 then
      k0 (1 : Int)
    else
      let x103 := ((a95.length : Nat) : Int)
      let x104 := (IntKind.i64.wrap (x103 - (1 : Int)))
      spec_l5Cmp_L0 N N a95 a96 x104
        (fun x116 =>
          k0 x116)
        (
          k0 (0 : Int))
theorem spec_l5Cmp.ex : ∃ f : ((α : Type) → Nat → List Int → List Int → (Int → Option α) → Option α), f = fun α => @spec_l5Cmp.b α := ⟨_, rfl⟩
noncomputable def spec_l5Cmp {α : Type} : Nat → List Int → List Int → (Int → Option α) → Option α := Classical.choose spec_l5Cmp.ex α
theorem spec_l5Cmp.eq : @spec_l5Cmp = @spec_l5Cmp.b := funext fun α => congrFun (Classical.choose_spec spec_l5Cmp.ex) α

noncomputable def spec_l5DivSmall_L0r {α : Type} (N : Nat) (next : List Int → Int → Int → Int → List Int → Option α) (k0 : Int → List Int → Option α) (v129 : List Int) (v130 : Int) (v131 : Int) (v132 : Int) (v133 : List Int) : Option α :=
  let x134 := (decide ((0 : Int) ≤ v132))
  bif x134 then
    let x135 := (IntKind.i64.wrap (v131 * (65536 : Int)))
    bif (decide (v132 < (0 : Int))) then
      none
    else
      match v129[v132.toNat]? with
      | some x136 =>
        let x137 := IntKind.i64.wrap (x135 + x136)
        bif (decide (v130 = (0 : Int))) then
          none
        else
          let x138 := IntKind.i64.wrap (Int.tdiv x137 v130)
          bif (decide (v132 < (0 : Int))) then
            none
          else
            bif decide (v132.toNat < v133.length) then
              match v133[v132.toNat]? with
              | some x139 =>
                let x140 := v133.set v132.toNat x138
                bif (decide (v130 = (0 : Int))) then
                  none
                else
                  let x141 := Int.tmod x137 v130
                  let x142 := (IntKind.i64.wrap (v132 - (1 : Int)))
                  next v129 v130 x141 x142 x140
              | none => none
            else
              none
      | none => none
  else
    k0 v131 v133
noncomputable def spec_l5DivSmall_L0.b {α : Type} (N n : Nat) (v129 : List Int) (v130 : Int) (v131 : Int) (v132 : Int) (v133 : List Int) (k0 : Int → List Int → Option α) : Option α :=
  Nat.rec (motive := fun _ => List Int → Int → Int → Int → List Int → Option α) (fun _ _ _ _ _ => none) (fun _ next => spec_l5DivSmall_L0r N next k0) n v129 v130 v131 v132 v133
theorem spec_l5DivSmall_L0.ex : ∃ f : ((α : Type) → Nat → Nat → List Int → Int → Int → Int → List Int → (Int → List Int → Option α) → Option α), f = fun α => @spec_l5DivSmall_L0.b α := ⟨_, rfl⟩
noncomputable def spec_l5DivSmall_L0 {α : Type} : Nat → Nat → List Int → Int → Int → Int → List Int → (Int → List Int → Option α) → Option α := Classical.choose spec_l5DivSmall_L0.ex α
theorem spec_l5DivSmall_L0.eq : @spec_l5DivSmall_L0 = @spec_l5DivSmall_L0.b := funext fun α => congrFun (Classical.choose_spec spec_l5DivSmall_L0.ex) α
theorem spec_l5DivSmall_L0.zero {α : Type} (N : Nat) (v129 : List Int) (v130 : Int) (v131 : Int) (v132 : Int) (v133 : List Int) (k0 : Int → List Int → Option α) : spec_l5DivSmall_L0 N 0 v129 v130 v131 v132 v133 k0 = none := by rw [spec_l5DivSmall_L0.eq]; rfl
theorem spec_l5DivSmall_L0.succ {α : Type} (N n : Nat) (v129 : List Int) (v130 : Int) (v131 : Int) (v132 : Int) (v133 : List Int) (k0 : Int → List Int → Option α) : spec_l5DivSmall_L0 N (n + 1) v129 v130 v131 v132 v133 k0 = spec_l5DivSmall_L0r N (fun y0 y1 y2 y3 y4 => spec_l5DivSmall_L0 N n y0 y1 y2 y3 y4 k0) k0 v129 v130 v131 v132 v133 := by rw [spec_l5DivSmall_L0.eq]; rfl
/-- loop.example/pinfold/spec.l5DivSmall -/
noncomputable def spec_l5DivSmall.b {α : Type} (N : Nat) (a123 : List Int) (a124 : Int) (k0 : Int → List Int → Option α) : Option α :=
  let x125 := ((a123.length : Nat) : Int)
  bif (decide ((0 : Int) ≤ x125)) then
    bif decide (x125 ≤ x125) then
      bif (decide (x125 ≤ ((8796093022208 : Nat) : Int))) then
        let x126 := (List.replicate x125.toNat (0 : Int))
        let x127 := ((a123.length : Nat) : Int)
        let x128 := (IntKind.i64.wrap (x127 - (1 : Int)))
        spec_l5DivSmall_L0 N N a123 a124 (0 : Int) x128 x126
          (fun x143 x144 =>
            spec_l5Trim N x144
              (fun x145 =>
                k0 x143 x145))
      else
        none
    else
      none
  else
    none
theorem spec_l5DivSmall.ex : ∃ f : ((α : Type) → Nat → List Int → Int → (Int → List Int → Option α) → Option α), f = fun α => @spec_l5DivSmall.b α := ⟨_, rfl⟩
noncomputable def spec_l5DivSmall {α : Type} : Nat → List Int → Int → (Int → List Int → Option α) → Option α := Classical.choose spec_l5DivSmall.ex α
theorem spec_l5DivSmall.eq : @spec_l5DivSmall = @spec_l5DivSmall.b := funext fun α => congrFun (Classical.choose_spec spec_l5DivSmall.ex) α

noncomputable def spec_NatOf_L0r {α : Type} (N : Nat) (next : Int → List Int → Option α) (k0 : List Int → Option α) (v150 : Int) (v151 : List Int) : Option α :=
  let x152 := (decide ((0 : Int) < v150))
  bif x152 then
    let x153 := (Int.tmod v150 (65536 : Int))
    let x154 := IntKind.i64.wrap x153
    let x155 := [x154]
    bif decide (v151.length + x155.length ≤ 8796093022208) then
      let x156 := v151 ++ x155
      let x157 := (IntKind.u64.wrap (Int.tdiv v150 (65536 : Int)))
      next x157 x156
    else
      none
  else
    k0 v151
noncomputable def spec_NatOf_L0.b {α : Type} (N n : Nat) (v150 : Int) (v151 : List Int) (k0 : List Int → Option α) : Option α :=
  Nat.rec (motive := fun _ => Int → List Int → Option α) (fun _ _ => none) (fun _ next => spec_NatOf_L0r N next k0) n v150 v151
theorem spec_NatOf_L0.ex : ∃ f : ((α : Type) → Nat → Nat → Int → List Int → (List Int → Option α) → Option α), f = fun α => @spec_NatOf_L0.b α := ⟨_, rfl⟩
noncomputable def spec_NatOf_L0 {α : Type} : Nat → Nat → Int → List Int → (List Int → Option α) → Option α := Classical.choose spec_NatOf_L0.ex α
theorem spec_NatOf_L0.eq : @spec_NatOf_L0 = @spec_NatOf_L0.b := funext fun α => congrFun (Classical.choose_spec spec_NatOf_L0.ex) α
theorem spec_NatOf_L0.zero {α : Type} (N : Nat) (v150 : Int) (v151 : List Int) (k0 : List Int → Option α) : spec_NatOf_L0 N 0 v150 v151 k0 = none := by rw [spec_NatOf_L0.eq]; rfl
theorem spec_NatOf_L0.succ {α : Type} (N n : Nat) (v150 : Int) (v151 : List Int) (k0 : List Int → Option α) : spec_NatOf_L0 N (n + 1) v150 v151 k0 = spec_NatOf_L0r N (fun y0 y1 => spec_NatOf_L0 N n y0 y1 k0) k0 v150 v151 := by rw [spec_NatOf_L0.eq]; rfl
/-- loop.example/pinfold/spec.NatOf -/
noncomputable def spec_NatOf.b {α : Type} (N : Nat) (a149 : Int) (k0 : List Int → Option α) : Option α :=
  spec_NatOf_L0 N N a149 []
    (fun x158 =>
      k0 x158)
theorem spec_NatOf.ex : ∃ f : ((α : Type) → Nat → Int → (List Int → Option α) → Option α), f = fun α => @spec_NatOf.b α := ⟨_, rfl⟩
noncomputable def spec_NatOf {α : Type} : Nat → Int → (List Int → Option α) → Option α := Classical.choose spec_NatOf.ex α
theorem spec_NatOf.eq : @spec_NatOf = @spec_NatOf.b := funext fun α => congrFun (Classical.choose_spec spec_NatOf.ex) α

noncomputable def spec_l5Mul_L2r {α : Type} (N : Nat) (next : List Int → List Int → Int → Int → Int → List Int → Option α) (k0 : List Int → List Int → Int → Int → List Int → Option α) (v181 : List Int) (v182 : List Int) (v183 : Int) (v184 : Int) (v185 : Int) (v186 : List Int) : Option α :=
  let x187 := ((v182.length : Nat) : Int)
  let x188 := decide (v185 < x187)
  bif x188 then
    let x189 := IntKind.i64.wrap (v183 + v185)
    bif (decide (x189 < (0 : Int))) then
      none
    else
      bif decide (x189.toNat < v186.length) then
        match v186[x189.toNat]? with
        | some x190 =>
          bif (decide (v183 < (0 : Int))) then
            none
          else
            match v181[v183.toNat]? with
            | some x191 =>
              bif (decide (v185 < (0 : Int))) then
                none
              else
                match v182[v185.toNat]? with
                | some x192 =>
                  let x193 := IntKind.i64.wrap (x191 * x192)
                  let x194 := IntKind.i64.wrap (x190 + x193)
                  let x195 := IntKind.i64.wrap (x194 + v184)
                  let x196 := IntKind.i64.wrap (v183 + v185)
                  let x197 := (Int.tmod x195 (65536 : Int))
                  bif (decide (x196 < (0 : Int))) then
                    none
                  else
                    bif decide (x196.toNat < v186.length) then
                      match v186[x196.toNat]? with
                      | some x198 =>
                        let x199 := v186.set x196.toNat x197
                        let x200 := (IntKind.i64.wrap (Int.tdiv x195 (65536 : Int)))
                        let x201 := (IntKind.i64.wrap (v185 + (1 : Int)))
                        next v181 v182 v183 x200 x201 x199
                      | none => none
                    else
                      none
                | none => none
            | none => none
        | none => none
      else
        none
  else
    k0 v181 v182 v183 v184 v186
noncomputable def spec_l5Mul_L2.b {α : Type} (N n : Nat) (v181 : List Int) (v182 : List Int) (v183 : Int) (v184 : Int) (v185 : Int) (v186 : List Int) (k0 : List Int → List Int → Int → Int → List Int → Option α) : Option α :=
  Nat.rec (motive := fun _ => List Int → List Int → Int → Int → Int → List Int → Option α) (fun _ _ _ _ _ _ => none) (fun _ next => spec_l5Mul_L2r N next k0) n v181 v182 v183 v184 v185 v186
theorem spec_l5Mul_L2.ex : ∃ f : ((α : Type) → Nat → Nat → List Int → List Int → Int → Int → Int → List Int → (List Int → List Int → Int → Int → List Int → Option α) → Option α), f = fun α => @spec_l5Mul_L2.b α := ⟨_, rfl⟩
noncomputable def spec_l5Mul_L2 {α : Type} : Nat → Nat → List Int → List Int → Int → Int → Int → List Int → (List Int → List Int → Int → Int → List Int → Option α) → Option α := Classical.choose spec_l5Mul_L2.ex α
theorem spec_l5Mul_L2.eq : @spec_l5Mul_L2 = @spec_l5Mul_L2.b := funext fun α => congrFun (Classical.choose_spec spec_l5Mul_L2.ex) α
theorem spec_l5Mul_L2.zero {α : Type} (N : Nat) (v181 : List Int) (v182 : List Int) (v183 : Int) (v184 : Int) (v185 : Int) (v186 : List Int) (k0 : List Int → List Int → Int → Int → List Int → Option α) : spec_l5Mul_L2 N 0 v181 v182 v183 v184 v185 v186 k0 = none := by rw [spec_l5Mul_L2.eq]; rfl
theorem spec_l5Mul_L2.succ {α : Type} (N n : Nat) (v181 : List Int) (v182 : List Int) (v183 : Int) (v184 : Int) (v185 : Int) (v186 : List Int) (k0 : List Int → List Int → Int → Int → List Int → Option α) : spec_l5Mul_L2 N (n + 1) v181 v182 v183 v184 v185 v186 k0 = spec_l5Mul_L2r N (fun y0 y1 y2 y3 y4 y5 => spec_l5Mul_L2 N n y0 y1 y2 y3 y4 y5 k0) k0 v181 v182 v183 v184 v185 v186 := by rw [spec_l5Mul_L2.eq]; rfl
noncomputable def spec_l5Mul_L0r {α : Type} (N : Nat) (next : List Int → List Int → Int → List Int → Option α) (k0 : List Int → Option α) (v175 : List Int) (v176 : List Int) (v177 : Int) (v178 : List Int) : Option α :=
  let x179 := ((v175.length : Nat) : Int)
  let x180 := decide (v177 < x179)
  bif x180 then
    spec_l5Mul_L2 N N v175 v176 v177 (0 : Int) (0 : Int) v178
      (fun x202 x203 x204 x205 x206 =>
        let x207 := ((x203.length : Nat) : Int)
        let x208 := IntKind.i64.wrap (x204 + x207)
        bif (decide (x208 < (0 : Int))) then
          none
        else
          bif decide (x208.toNat < x206.length) then
            match x206[x208.toNat]? with
            | some x209 =>
              let x210 := x206.set x208.toNat x205
              let x211 := (IntKind.i64.wrap (x204 + (1 : Int)))
              next x202 x203 x211 x210
            | none => none
          else
            none)
  else
    k0 v178
noncomputable def spec_l5Mul_L0.b {α : Type} (N n : Nat) (v175 : List Int) (v176 : List Int) (v177 : Int) (v178 : List Int) (k0 : List Int → Option α) : Option α :=
  Nat.rec (motive := fun _ => List Int → List Int → Int → List Int → Option α) (fun _ _ _ _ => none) (fun _ next => spec_l5Mul_L0r N next k0) n v175 v176 v177 v178
theorem spec_l5Mul_L0.ex : ∃ f : ((α : Type) → Nat → Nat → List Int → List Int → Int → List Int → (List Int → Option α) → Option α), f = fun α => @spec_l5Mul_L0.b α := ⟨_, rfl⟩
noncomputable def spec_l5Mul_L0 {α : Type} : Nat → Nat → List Int → List Int → Int → List Int → (List Int → Option α) → Option α := Classical.choose spec_l5Mul_L0.ex α
theorem spec_l5Mul_L0.eq : @spec_l5Mul_L0 = @spec_l5Mul_L0.b := funext fun α => congrFun (Classical.choose_spec spec_l5Mul_L0.ex) α
theorem spec_l5Mul_L0.zero {α : Type} (N : Nat) (v175 : List Int) (v176 : List Int) (v177 : Int) (v178 : List Int) (k0 : List Int → Option α) : spec_l5Mul_L0 N 0 v175 v176 v177 v178 k0 = none := by rw [spec_l5Mul_L0.eq]; rfl
theorem spec_l5Mul_L0.succ {α : Type} (N n : Nat) (v175 : List Int) (v176 : List Int) (v177 : Int) (v178 : List Int) (k0 : List Int → Option α) : spec_l5Mul_L0 N (n + 1) v175 v176 v177 v178 k0 = spec_l5Mul_L0r N (fun y0 y1 y2 y3 => spec_l5Mul_L0 N n y0 y1 y2 y3 k0) k0 v175 v176 v177 v178 := by rw [spec_l5Mul_L0.eq]; rfl
/-- loop.example/pinfold/spec.l5Mul -/
noncomputable def spec_l5Mul.b {α : Type} (N : Nat) (a169 : List Int) (a170 : List Int) (k0 : List Int → Option α) : Option α :=
  let x171 := ((a169.length : Nat) : Int)
  let x172 := ((a170.length : Nat) : Int)
  let x173 := IntKind.i64.wrap (x171 + x172)
  bif (decide ((0 : Int) ≤ x173)) then
    bif decide (x173 ≤ x173) then
      bif (decide (x173 ≤ ((8796093022208 : Nat) : Int))) then
        let x174 := (List.replicate x173.toNat (0 : Int))
        spec_l5Mul_L0 N N a169 a170 (0 : Int) x174
          (fun x212 =>
            spec_l5Trim N x212
              (fun x213 =>
                k0 x213))
      else
        none
    else
      none
  else
    none
theorem spec_l5Mul.ex : ∃ f : ((α : Type) → Nat → List Int → List Int → (List Int → Option α) → Option α), f = fun α => @spec_l5Mul.b α := ⟨_, rfl⟩
noncomputable def spec_l5Mul {α : Type} : Nat → List Int → List Int → (List Int → Option α) → Option α := Classical.choose spec_l5Mul.ex α
theorem spec_l5Mul.eq : @spec_l5Mul = @spec_l5Mul.b := funext fun α => congrFun (Classical.choose_spec spec_l5Mul.ex) α

/-- loop.example/pinfold/spec.l5Times -/
noncomputable def spec_l5Times.b {α : Type} (N : Nat) (a165 : List Int) (a166 : Int) (k0 : List Int → Option α) : Option α :=
  let x167 := (decide (a166 = (0 : Int)))
  bif x167 then
    k0 []
  else
    let x168 := [a166]
    spec_l5Mul N a165 x168
      (fun x214 =>
        k0 x214)
theorem spec_l5Times.ex : ∃ f : ((α : Type) → Nat → List Int → Int → (List Int → Option α) → Option α), f = fun α => @spec_l5Times.b α := ⟨_, rfl⟩
noncomputable def spec_l5Times {α : Type} : Nat → List Int → Int → (List Int → Option α) → Option α := Classical.choose spec_l5Times.ex α
theorem spec_l5Times.eq : @spec_l5Times = @spec_l5Times.b := funext fun α => congrFun (Classical.choose_spec spec_l5Times.ex) α

noncomputable def spec_l5Top_L0r {α : Type} (N : Nat) (next : List Int → Int → List Int → Option α) (k0 : List Int → Option α) (v227 : List Int) (v228 : Int) (v229 : List Int) : Option α :=
  let x230 := ((v227.length : Nat) : Int)
  let x231 := decide (v228 < x230)
  bif x231 then
    bif (decide (v228 < (0 : Int))) then
      none
    else
      match v227[v228.toNat]? with
      | some x232 =>
        let x233 := [x232]
        bif decide (v229.length + x233.length ≤ 8796093022208) then
          let x234 := v229 ++ x233
          let x235 := (IntKind.i64.wrap (v228 + (1 : Int)))
          next v227 x235 x234
        else
          none
      | none => none
  else
    k0 v229
noncomputable def spec_l5Top_L0.b {α : Type} (N n : Nat) (v227 : List Int) (v228 : Int) (v229 : List Int) (k0 : List Int → Option α) : Option α :=
  Nat.rec (motive := fun _ => List Int → Int → List Int → Option α) (fun _ _ _ => none) (fun _ next => spec_l5Top_L0r N next k0) n v227 v228 v229
theorem spec_l5Top_L0.ex : ∃ f : ((α : Type) → Nat → Nat → List Int → Int → List Int → (List Int → Option α) → Option α), f = fun α => @spec_l5Top_L0.b α := ⟨_, rfl⟩
noncomputable def spec_l5Top_L0 {α : Type} : Nat → Nat → List Int → Int → List Int → (List Int → Option α) → Option α := Classical.choose spec_l5Top_L0.ex α
theorem spec_l5Top_L0.eq : @spec_l5Top_L0 = @spec_l5Top_L0.b := funext fun α => congrFun (Classical.choose_spec spec_l5Top_L0.ex) α
theorem spec_l5Top_L0.zero {α : Type} (N : Nat) (v227 : List Int) (v228 : Int) (v229 : List Int) (k0 : List Int → Option α) : spec_l5Top_L0 N 0 v227 v228 v229 k0 = none := by rw [spec_l5Top_L0.eq]; rfl
theorem spec_l5Top_L0.succ {α : Type} (N n : Nat) (v227 : List Int) (v228 : Int) (v229 : List Int) (k0 : List Int → Option α) : spec_l5Top_L0 N (n + 1) v227 v228 v229 k0 = spec_l5Top_L0r N (fun y0 y1 y2 => spec_l5Top_L0 N n y0 y1 y2 k0) k0 v227 v228 v229 := by rw [spec_l5Top_L0.eq]; rfl
/-- loop.example/pinfold/spec.l5Top -/
noncomputable def spec_l5Top.b {α : Type} (N : Nat) (a225 : List Int) (a226 : Int) (k0 : List Int → Option α) : Option α :=
  spec_l5Top_L0 N N a225 a226 []
    (fun x236 =>
      k0 x236)
theorem spec_l5Top.ex : ∃ f : ((α : Type) → Nat → List Int → Int → (List Int → Option α) → Option α), f = fun α => @spec_l5Top.b α := ⟨_, rfl⟩
noncomputable def spec_l5Top {α : Type} : Nat → List Int → Int → (List Int → Option α) → Option α := Classical.choose spec_l5Top.ex α
theorem spec_l5Top.eq : @spec_l5Top = @spec_l5Top.b := funext fun α => congrFun (Classical.choose_spec spec_l5Top.ex) α

noncomputable def spec_l5Shl_L0r {α : Type} (N : Nat) (next : List Int → Int → List Int → Option α) (k0 : List Int → Option α) (v253 : List Int) (v254 : Int) (v255 : List Int) : Option α :=
  let x256 := ((v253.length : Nat) : Int)
  let x257 := decide (v254 < x256)
  bif x257 then
    bif (decide (v254 < (0 : Int))) then
      none
    else
      match v253[v254.toNat]? with
      | some x258 =>
        let x259 := [x258]
        bif decide (v255.length + x259.length ≤ 8796093022208) then
          let x260 := v255 ++ x259
          let x261 := (IntKind.i64.wrap (v254 + (1 : Int)))
          next v253 x261 x260
        else
          none
      | none => none
  else
    k0 v255
noncomputable def spec_l5Shl_L0.b {α : Type} (N n : Nat) (v253 : List Int) (v254 : Int) (v255 : List Int) (k0 : List Int → Option α) : Option α :=
  Nat.rec (motive := fun _ => List Int → Int → List Int → Option α) (fun _ _ _ => none) (fun _ next => spec_l5Shl_L0r N next k0) n v253 v254 v255
theorem spec_l5Shl_L0.ex : ∃ f : ((α : Type) → Nat → Nat → List Int → Int → List Int → (List Int → Option α) → Option α), f = fun α => @spec_l5Shl_L0.b α := ⟨_, rfl⟩
noncomputable def spec_l5Shl_L0 {α : Type} : Nat → Nat → List Int → Int → List Int → (List Int → Option α) → Option α := Classical.choose spec_l5Shl_L0.ex α
theorem spec_l5Shl_L0.eq : @spec_l5Shl_L0 = @spec_l5Shl_L0.b := funext fun α => congrFun (Classical.choose_spec spec_l5Shl_L0.ex) α
theorem spec_l5Shl_L0.zero {α : Type} (N : Nat) (v253 : List Int) (v254 : Int) (v255 : List Int) (k0 : List Int → Option α) : spec_l5Shl_L0 N 0 v253 v254 v255 k0 = none := by rw [spec_l5Shl_L0.eq]; rfl
theorem spec_l5Shl_L0.succ {α : Type} (N n : Nat) (v253 : List Int) (v254 : Int) (v255 : List Int) (k0 : List Int → Option α) : spec_l5Shl_L0 N (n + 1) v253 v254 v255 k0 = spec_l5Shl_L0r N (fun y0 y1 y2 => spec_l5Shl_L0 N n y0 y1 y2 k0) k0 v253 v254 v255 := by rw [spec_l5Shl_L0.eq]; rfl
/-- loop.example/pinfold/spec.l5Shl -/
noncomputable def spec_l5Shl.b {α : Type} (N : Nat) (a248 : List Int) (a249 : Int) (k0 : List Int → Option α) : Option α :=
  let x250 := ((a248.length : Nat) : Int)
  let x251 := (decide (x250 = (0 : Int)))
  bif x251 then
    k0 []
  else
    bif (decide ((0 : Int) ≤ a249)) then
      bif decide (a249 ≤ a249) then
        bif (decide (a249 ≤ ((8796093022208 : Nat) : Int))) then
          let x252 := (List.replicate a249.toNat (0 : Int))
          spec_l5Shl_L0 N N a248 (0 : Int) x252
            (fun x262 =>
              k0 x262)
        else
          none
      else
        none
    else
      none
theorem spec_l5Shl.ex : ∃ f : ((α : Type) → Nat → List Int → Int → (List Int → Option α) → Option α), f = fun α => @spec_l5Shl.b α := ⟨_, rfl⟩
noncomputable def spec_l5Shl {α : Type} : Nat → List Int → Int → (List Int → Option α) → Option α := Classical.choose spec_l5Shl.ex α
theorem spec_l5Shl.eq : @spec_l5Shl = @spec_l5Shl.b := funext fun α => congrFun (Classical.choose_spec spec_l5Shl.ex) α

/-- loop.example/pinfold/spec.l5At -/
noncomputable def spec_l5At.b {α : Type} (N : Nat) (a286 : List Int) (a287 : Int) (k0 : Int → Option α) : Option α :=
  let x288 := ((a286.length : Nat) : Int)
  let x289 := decide (a287 < x288)
  bif x289 then
    bif (decide (a287 < (0 : Int))) then
      none
    else
      match a286[a287.toNat]? with
      | some x290 =>
        k0 x290
      | none => none
  else
    k0 (0 : Int)
theorem spec_l5At.ex : ∃ f : ((α : Type) → Nat → List Int → Int → (Int → Option α) → Option α), f = fun α => @spec_l5At.b α := ⟨_, rfl⟩
noncomputable def spec_l5At {α : Type} : Nat → List Int → Int → (Int → Option α) → Option α := Classical.choose spec_l5At.ex α
theorem spec_l5At.eq : @spec_l5At = @spec_l5At.b := funext fun α => congrFun (Classical.choose_spec spec_l5At.ex) α

noncomputable def spec_l5Add_J2.b {α : Type} (N : Nat) (v270 : List Int) (v271 : List Int) (v272 : Int) (k0 : List Int → List Int → Int → Option α) : Option α :=
  let x273 := ((v271.length : Nat) : Int)
  let x274 := decide (v272 < x273)
  bif x274 then
    let x275 := ((v271.length : Nat) : Int)
    k0 v270 v271 x275
  else
    k0 v270 v271 v272
theorem spec_l5Add_J2.ex : ∃ f : ((α : Type) → Nat → List Int → List Int → Int → (List Int → List Int → Int → Option α) → Option α), f = fun α => @spec_l5Add_J2.b α := ⟨_, rfl⟩
noncomputable def spec_l5Add_J2 {α : Type} : Nat → List Int → List Int → Int → (List Int → List Int → Int → Option α) → Option α := Classical.choose spec_l5Add_J2.ex α
theorem spec_l5Add_J2.eq : @spec_l5Add_J2 = @spec_l5Add_J2.b := funext fun α => congrFun (Classical.choose_spec spec_l5Add_J2.ex) α
noncomputable def spec_l5Add_L0r {α : Type} (N : Nat) (next : List Int → List Int → Int → Int → Int → List Int → Option α) (k0 : Int → List Int → Option α) (v279 : List Int) (v280 : List Int) (v281 : Int) (v282 : Int) (v283 : Int) (v284 : List Int) : Option α :=
  let x285 := decide (v283 < v281)
  bif x285 then
    spec_l5At N v279 v283
      (fun x291 =>
        spec_l5At N v280 v283
          (fun x292 =>
            let x293 := IntKind.i64.wrap (x291 + x292)
            let x294 := IntKind.i64.wrap (x293 + v282)
            let x295 := (Int.tmod x294 (65536 : Int))
            let x296 := [x295]
            bif decide (v284.length + x296.length ≤ 8796093022208) then
              let x297 := v284 ++ x296
              let x298 := (IntKind.i64.wrap (Int.tdiv x294 (65536 : Int)))
              let x299 := (IntKind.i64.wrap (v283 + (1 : Int)))
              next v279 v280 v281 x298 x299 x297
            else
              none))
  else
    k0 v282 v284
noncomputable def spec_l5Add_L0.b {α : Type} (N n : Nat) (v279 : List Int) (v280 : List Int) (v281 : Int) (v282 : Int) (v283 : Int) (v284 : List Int) (k0 : Int → List Int → Option α) : Option α :=
  Nat.rec (motive := fun _ => List Int → List Int → Int → Int → Int → List Int → Option α) (fun _ _ _ _ _ _ => none) (fun _ next => spec_l5Add_L0r N next k0) n v279 v280 v281 v282 v283 v284
theorem spec_l5Add_L0.ex : ∃ f : ((α : Type) → Nat → Nat → List Int → List Int → Int → Int → Int → List Int → (Int → List Int → Option α) → Option α), f = fun α => @spec_l5Add_L0.b α := ⟨_, rfl⟩
noncomputable def spec_l5Add_L0 {α : Type} : Nat → Nat → List Int → List Int → Int → Int → Int → List Int → (Int → List Int → Option α) → Option α := Classical.choose spec_l5Add_L0.ex α
theorem spec_l5Add_L0.eq : @spec_l5Add_L0 = @spec_l5Add_L0.b := funext fun α => congrFun (Classical.choose_spec spec_l5Add_L0.ex) α
theorem spec_l5Add_L0.zero {α : Type} (N : Nat) (v279 : List Int) (v280 : List Int) (v281 : Int) (v282 : Int) (v283 : Int) (v284 : List Int) (k0 : Int → List Int → Option α) : spec_l5Add_L0 N 0 v279 v280 v281 v282 v283 v284 k0 = none := by rw [spec_l5Add_L0.eq]; rfl
theorem spec_l5Add_L0.succ {α : Type} (N n : Nat) (v279 : List Int) (v280 : List Int) (v281 : Int) (v282 : Int) (v283 : Int) (v284 : List Int) (k0 : Int → List Int → Option α) : spec_l5Add_L0 N (n + 1) v279 v280 v281 v282 v283 v284 k0 = spec_l5Add_L0r N (fun y0 y1 y2 y3 y4 y5 => spec_l5Add_L0 N n y0 y1 y2 y3 y4 y5 k0) k0 v279 v280 v281 v282 v283 v284 := by rw [spec_l5Add_L0.eq]; rfl
noncomputable def spec_l5Add_J12.b {α : Type} (N : Nat) (v302 : Int) (v303 : List Int) (k0 : List Int → Option α) : Option α :=
  let x304 := (decide ((0 : Int) < v302))
  bif x304 then
    let x305 := [v302]
    bif decide (v303.length + x305.length ≤ 8796093022208) then
      let x306 := v303 ++ x305
      k0 x306
    else
      none
  else
    k0 v303
theorem spec_l5Add_J12.ex : ∃ f : ((α : Type) → Nat → Int → List Int → (List Int → Option α) → Option α), f = fun α => @spec_l5Add_J12.b α := ⟨_, rfl⟩
noncomputable def spec_l5Add_J12 {α : Type} : Nat → Int → List Int → (List Int → Option α) → Option α := Classical.choose spec_l5Add_J12.ex α
theorem spec_l5Add_J12.eq : @spec_l5Add_J12 = @spec_l5Add_J12.b := funext fun α => congrFun (Classical.choose_spec spec_l5Add_J12.ex) α
/-- loop.example/pinfold/spec.l5Add -/
noncomputable def spec_l5Add.b {α : Type} (N : Nat) (a267 : List Int) (a268 : List Int) (k0 : List Int → Option α) : Option α :=
  let x269 := ((a267.length : Nat) : Int)
  spec_l5Add_J2 N a267 a268 x269
    (fun x276 x277 x278 =>
      spec_l5Add_L0 N N x276 x277 x278 (0 : Int) (0 : Int) []
        (fun x300 x301 =>
          spec_l5Add_J12 N x300 x301
            (fun x307 =>
              k0 x307)))
theorem spec_l5Add.ex : ∃ f : ((α : Type) → Nat → List Int → List Int → (List Int → Option α) → Option α), f = fun α => @spec_l5Add.b α := ⟨_, rfl⟩
noncomputable def spec_l5Add {α : Type} : Nat → List Int → List Int → (List Int → Option α) → Option α := Classical.choose spec_l5Add.ex α
theorem spec_l5Add.eq : @spec_l5Add = @spec_l5Add.b := funext fun α => congrFun (Classical.choose_spec spec_l5Add.ex) α

noncomputable def spec_l5Sub_J8.b {α : Type} (N : Nat) (v360 : List Int) (v361 : List Int) (v362 : Int) (v363 : Int) (v364 : Int) (v365 : List Int) (k0 : List Int → List Int → Int → Int → Int → List Int → Option α) : Option α :=
  let x366 := (decide (v364 < (0 : Int)))
  bif x366 then
    let x367 := (IntKind.i64.wrap (v364 + (65536 : Int)))
    k0 v360 v361 (1 : Int) v363 x367 v365
  else
    k0 v360 v361 v362 v363 v364 v365
theorem spec_l5Sub_J8.ex : ∃ f : ((α : Type) → Nat → List Int → List Int → Int → Int → Int → List Int → (List Int → List Int → Int → Int → Int → List Int → Option α) → Option α), f = fun α => @spec_l5Sub_J8.b α := ⟨_, rfl⟩
noncomputable def spec_l5Sub_J8 {α : Type} : Nat → List Int → List Int → Int → Int → Int → List Int → (List Int → List Int → Int → Int → Int → List Int → Option α) → Option α := Classical.choose spec_l5Sub_J8.ex α
theorem spec_l5Sub_J8.eq : @spec_l5Sub_J8 = @spec_l5Sub_J8.b := funext fun α => congrFun (Classical.choose_spec spec_l5Sub_J8.ex) α
noncomputable def spec_l5Sub_L0r {α : Type} (N : Nat) (next : List Int → List Int → Int → Int → List Int → Option α) (k0 : List Int → Option α) (v349 : List Int) (v350 : List Int) (v351 : Int) (v352 : Int) (v353 : List Int) : Option α :=
  let x354 := ((v349.length : Nat) : Int)
  let x355 := decide (v352 < x354)
  bif x355 then
    bif (decide (v352 < (0 : Int))) then
      none
    else
      match v349[v352.toNat]? with
      | some x356 =>
        spec_l5At N v350 v352
          (fun x357 =>
            let x358 := IntKind.i64.wrap (x356 - x357)
            let x359 := IntKind.i64.wrap (x358 - v351)
            spec_l5Sub_J8 N v349 v350 (0 : Int) v352 x359 v353
              (fun x368 x369 x370 x371 x372 x373 =>
                let x374 := [x372]
                bif decide (x373.length + x374.length ≤ 8796093022208) then
                  let x375 := x373 ++ x374
                  let x376 := (IntKind.i64.wrap (x371 + (1 : Int)))
                  next x368 x369 x370 x376 x375
                else
                  none))
      | none => none
  else
    k0 v353
noncomputable def spec_l5Sub_L0.b {α : Type} (N n : Nat) (v349 : List Int) (v350 : List Int) (v351 : Int) (v352 : Int) (v353 : List Int) (k0 : List Int → Option α) : Option α :=
  Nat.rec (motive := fun _ => List Int → List Int → Int → Int → List Int → Option α) (fun _ _ _ _ _ => none) (fun _ next => spec_l5Sub_L0r N next k0) n v349 v350 v351 v352 v353
theorem spec_l5Sub_L0.ex : ∃ f : ((α : Type) → Nat → Nat → List Int → List Int → Int → Int → List Int → (List Int → Option α) → Option α), f = fun α => @spec_l5Sub_L0.b α := ⟨_, rfl⟩
noncomputable def spec_l5Sub_L0 {α : Type} : Nat → Nat → List Int → List Int → Int → Int → List Int → (List Int → Option α) → Option α := Classical.choose spec_l5Sub_L0.ex α
theorem spec_l5Sub_L0.eq : @spec_l5Sub_L0 = @spec_l5Sub_L0.b := funext fun α => congrFun (Classical.choose_spec spec_l5Sub_L0.ex) α
theorem spec_l5Sub_L0.zero {α : Type} (N : Nat) (v349 : List Int) (v350 : List Int) (v351 : Int) (v352 : Int) (v353 : List Int) (k0 : List Int → Option α) : spec_l5Sub_L0 N 0 v349 v350 v351 v352 v353 k0 = none := by rw [spec_l5Sub_L0.eq]; rfl
theorem spec_l5Sub_L0.succ {α : Type} (N n : Nat) (v349 : List Int) (v350 : List Int) (v351 : Int) (v352 : Int) (v353 : List Int) (k0 : List Int → Option α) : spec_l5Sub_L0 N (n + 1) v349 v350 v351 v352 v353 k0 = spec_l5Sub_L0r N (fun y0 y1 y2 y3 y4 => spec_l5Sub_L0 N n y0 y1 y2 y3 y4 k0) k0 v349 v350 v351 v352 v353 := by rw [spec_l5Sub_L0.eq]; rfl
/-- loop.example/pinfold/spec.l5Sub -/
noncomputable def spec_l5Sub.b {α : Type} (N : Nat) (a347 : List Int) (a348 : List Int) (k0 : List Int → Option α) : Option α :=
  spec_l5Sub_L0 N N a347 a348 (0 : Int) (0 : Int) []
    (fun x377 =>
      spec_l5Trim N x377
        (fun x378 =>
          k0 x378))
theorem spec_l5Sub.ex : ∃ f : ((α : Type) → Nat → List Int → List Int → (List Int → Option α) → Option α), f = fun α => @spec_l5Sub.b α := ⟨_, rfl⟩
noncomputable def spec_l5Sub {α : Type} : Nat → List Int → List Int → (List Int → Option α) → Option α := Classical.choose spec_l5Sub.ex α
theorem spec_l5Sub.eq : @spec_l5Sub = @spec_l5Sub.b := funext fun α => congrFun (Classical.choose_spec spec_l5Sub.ex) α

noncomputable def spec_l5Div_J17.b {α : Type} (N : Nat) (v318 : Int) (v319 : Int) (v320 : Int) (v321 : Int) (v322 : List Int) (v323 : List Int) (v324 : List Int) (v325 : List Int) (k0 : Int → Int → Int → Int → List Int → List Int → List Int → List Int → Option α) : Option α :=
  let x326 := (decide ((65536 : Int) ≤ v321))
  bif x326 then
    k0 v318 v319 v320 (65535 : Int) v322 v323 v324 v325
  else
    k0 v318 v319 v320 v321 v322 v323 v324 v325
theorem spec_l5Div_J17.ex : ∃ f : ((α : Type) → Nat → Int → Int → Int → Int → List Int → List Int → List Int → List Int → (Int → Int → Int → Int → List Int → List Int → List Int → List Int → Option α) → Option α), f = fun α => @spec_l5Div_J17.b α := ⟨_, rfl⟩
noncomputable def spec_l5Div_J17 {α : Type} : Nat → Int → Int → Int → Int → List Int → List Int → List Int → List Int → (Int → Int → Int → Int → List Int → List Int → List Int → List Int → Option α) → Option α := Classical.choose spec_l5Div_J17.ex α
theorem spec_l5Div_J17.eq : @spec_l5Div_J17 = @spec_l5Div_J17.b := funext fun α => congrFun (Classical.choose_spec spec_l5Div_J17.ex) α
noncomputable def spec_l5Div_L2r {α : Type} (N : Nat) (next : Int → Int → Int → Int → List Int → List Int → List Int → List Int → List Int → Option α) (k0 : Int → Int → Int → Int → List Int → List Int → List Int → List Int → List Int → Option α) (v336 : Int) (v337 : Int) (v338 : Int) (v339 : Int) (v340 : List Int) (v341 : List Int) (v342 : List Int) (v343 : List Int) (v344 : List Int) : Option α :=
  spec_l5Cmp N v344 v343
    (fun x345 =>
      let x346 := (decide ((0 : Int) < x345))
      bif x346 then
        spec_l5Sub N v344 v341
          (fun x379 =>
            let x380 := (IntKind.i64.wrap (v339 - (1 : Int)))
            next v336 v337 v338 x380 v340 v341 v342 v343 x379)
      else
        k0 v336 v337 v338 v339 v340 v341 v342 v343 v344)
noncomputable def spec_l5Div_L2.b {α : Type} (N n : Nat) (v336 : Int) (v337 : Int) (v338 : Int) (v339 : Int) (v340 : List Int) (v341 : List Int) (v342 : List Int) (v343 : List Int) (v344 : List Int) (k0 : Int → Int → Int → Int → List Int → List Int → List Int → List Int → List Int → Option α) : Option α :=
  Nat.rec (motive := fun _ => Int → Int → Int → Int → List Int → List Int → List Int → List Int → List Int → Option α) (fun _ _ _ _ _ _ _ _ _ => none) (fun _ next => spec_l5Div_L2r N next k0) n v336 v337 v338 v339 v340 v341 v342 v343 v344
theorem spec_l5Div_L2.ex : ∃ f : ((α : Type) → Nat → Nat → Int → Int → Int → Int → List Int → List Int → List Int → List Int → List Int → (Int → Int → Int → Int → List Int → List Int → List Int → List Int → List Int → Option α) → Option α), f = fun α => @spec_l5Div_L2.b α := ⟨_, rfl⟩
noncomputable def spec_l5Div_L2 {α : Type} : Nat → Nat → Int → Int → Int → Int → List Int → List Int → List Int → List Int → List Int → (Int → Int → Int → Int → List Int → List Int → List Int → List Int → List Int → Option α) → Option α := Classical.choose spec_l5Div_L2.ex α
theorem spec_l5Div_L2.eq : @spec_l5Div_L2 = @spec_l5Div_L2.b := funext fun α => congrFun (Classical.choose_spec spec_l5Div_L2.ex) α
theorem spec_l5Div_L2.zero {α : Type} (N : Nat) (v336 : Int) (v337 : Int) (v338 : Int) (v339 : Int) (v340 : List Int) (v341 : List Int) (v342 : List Int) (v343 : List Int) (v344 : List Int) (k0 : Int → Int → Int → Int → List Int → List Int → List Int → List Int → List Int → Option α) : spec_l5Div_L2 N 0 v336 v337 v338 v339 v340 v341 v342 v343 v344 k0 = none := by rw [spec_l5Div_L2.eq]; rfl
theorem spec_l5Div_L2.succ {α : Type} (N n : Nat) (v336 : Int) (v337 : Int) (v338 : Int) (v339 : Int) (v340 : List Int) (v341 : List Int) (v342 : List Int) (v343 : List Int) (v344 : List Int) (k0 : Int → Int → Int → Int → List Int → List Int → List Int → List Int → List Int → Option α) : spec_l5Div_L2 N (n + 1) v336 v337 v338 v339 v340 v341 v342 v343 v344 k0 = spec_l5Div_L2r N (fun y0 y1 y2 y3 y4 y5 y6 y7 y8 => spec_l5Div_L2 N n y0 y1 y2 y3 y4 y5 y6 y7 y8 k0) k0 v336 v337 v338 v339 v340 v341 v342 v343 v344 := by rw [spec_l5Div_L2.eq]; rfl
noncomputable def spec_l5Div_L0r {α : Type} (N : Nat) (next : Int → Int → Int → List Int → List Int → List Int → List Int → Option α) (k0 : Int → List Int → List Int → Option α) (v240 : Int) (v241 : Int) (v242 : Int) (v243 : List Int) (v244 : List Int) (v245 : List Int) (v246 : List Int) : Option α :=
  let x247 := (decide ((0 : Int) ≤ v242))
  bif x247 then
    spec_l5Shl N v246 (1 : Int)
      (fun x263 =>
        bif (decide (v242 < (0 : Int))) then
          none
        else
          bif decide (v242.toNat < v243.length) then
            match v243[v242.toNat]? with
            | some x264 =>
              let x265 := IntKind.u64.wrap x264
              spec_NatOf N x265
                (fun x266 =>
                  spec_l5Add N x263 x266
                    (fun x308 =>
                      spec_l5Trim N x308
                        (fun x309 =>
                          spec_l5At N x309 v241
                            (fun x310 =>
                              let x311 := (IntKind.i64.wrap (x310 * (65536 : Int)))
                              let x312 := (IntKind.i64.wrap (v241 - (1 : Int)))
                              spec_l5At N x309 x312
                                (fun x313 =>
                                  let x314 := IntKind.i64.wrap (x311 + x313)
                                  let x315 := (IntKind.i64.wrap (v241 - (1 : Int)))
                                  bif (decide (x315 < (0 : Int))) then
                                    none
                                  else
                                    bif decide (x315.toNat < v244.length) then
                                      match v244[x315.toNat]? with
                                      | some x316 =>
                                        bif (decide (x316 = (0 : Int))) then
                                          none
                                        else
                                          let x317 := IntKind.i64.wrap (Int.tdiv x314 x316)
                                          spec_l5Div_J17 N v240 v241 v242 x317 v243 v244 v245 x309
                                            (fun x327 x328 x329 x330 x331 x332 x333 x334 =>
                                              spec_l5Times N x332 x330
                                                (fun x335 =>
                                                  spec_l5Div_L2 N N x327 x328 x329 x330 x331 x332 x333 x334 x335
                                                    (fun x381 x382 x383 x384 x385 x386 x387 x388 x389 =>
                                                      bif (decide (x383 < (0 : Int))) then
                                                        none
                                                      else
                                                        bif decide (x383.toNat < x387.length) then
                                                          match x387[x383.toNat]? with
                                                          | some x390 =>
                                                            let x391 := x387.set x383.toNat x384
                                                            spec_l5Sub N x388 x389
                                                              (fun x392 =>
                                                                let x393 := (IntKind.i64.wrap (x383 - (1 : Int)))
                                                                next x381 x382 x393 x385 x386 x391 x392)
                                                          | none => none
                                                        else
                                                          none)))
                                      | none => none
                                    else
                                      none)))))
            | none => none
          else
            none)
  else
    k0 v240 v245 v246
noncomputable def spec_l5Div_L0.b {α : Type} (N n : Nat) (v240 : Int) (v241 : Int) (v242 : Int) (v243 : List Int) (v244 : List Int) (v245 : List Int) (v246 : List Int) (k0 : Int → List Int → List Int → Option α) : Option α :=
  Nat.rec (motive := fun _ => Int → Int → Int → List Int → List Int → List Int → List Int → Option α) (fun _ _ _ _ _ _ _ => none) (fun _ next => spec_l5Div_L0r N next k0) n v240 v241 v242 v243 v244 v245 v246
theorem spec_l5Div_L0.ex : ∃ f : ((α : Type) → Nat → Nat → Int → Int → Int → List Int → List Int → List Int → List Int → (Int → List Int → List Int → Option α) → Option α), f = fun α => @spec_l5Div_L0.b α := ⟨_, rfl⟩
noncomputable def spec_l5Div_L0 {α : Type} : Nat → Nat → Int → Int → Int → List Int → List Int → List Int → List Int → (Int → List Int → List Int → Option α) → Option α := Classical.choose spec_l5Div_L0.ex α
theorem spec_l5Div_L0.eq : @spec_l5Div_L0 = @spec_l5Div_L0.b := funext fun α => congrFun (Classical.choose_spec spec_l5Div_L0.ex) α
theorem spec_l5Div_L0.zero {α : Type} (N : Nat) (v240 : Int) (v241 : Int) (v242 : Int) (v243 : List Int) (v244 : List Int) (v245 : List Int) (v246 : List Int) (k0 : Int → List Int → List Int → Option α) : spec_l5Div_L0 N 0 v240 v241 v242 v243 v244 v245 v246 k0 = none := by rw [spec_l5Div_L0.eq]; rfl
theorem spec_l5Div_L0.succ {α : Type} (N n : Nat) (v240 : Int) (v241 : Int) (v242 : Int) (v243 : List Int) (v244 : List Int) (v245 : List Int) (v246 : List Int) (k0 : Int → List Int → List Int → Option α) : spec_l5Div_L0 N (n + 1) v240 v241 v242 v243 v244 v245 v246 k0 = spec_l5Div_L0r N (fun y0 y1 y2 y3 y4 y5 y6 => spec_l5Div_L0 N n y0 y1 y2 y3 y4 y5 y6 k0) k0 v240 v241 v242 v243 v244 v245 v246 := by rw [spec_l5Div_L0.eq]; rfl
/-- loop.example/pinfold/spec.l5Div -/
noncomputable def spec_l5Div.b {α : Type} (N : Nat) (a93 : List Int) (a94 : List Int) (k0 : List Int → List Int → Option α) : Option α :=
  spec_l5Cmp N a93 a94
    (fun x117 =>
      let x118 := (decide (x117 < (0 : Int)))
      bif x118 then
        spec_l5Trim N a93
          (fun x119 =>
            k0 [] x119)
      else
        let x120 := ((a94.length : Nat) : Int)
        let x121 := (decide (x120 = (1 : Int)))
        bif x121 then
          match a94[0]? with
          | some x122 =>
            spec_l5DivSmall N a93 x122
              (fun x146 x147 =>
                let x148 := IntKind.u64.wrap x146
                spec_NatOf N x148
                  (fun x159 =>
                    k0 x147 x159))
          | none => none
        else
          let x160 := ((a94.length : Nat) : Int)
          let x161 := (IntKind.i64.wrap (x160 - (1 : Int)))
          bif (decide (x161 < (0 : Int))) then
            none
          else
            match a94[x161.toNat]? with
            | some x162 =>
              let x163 := (IntKind.i64.wrap (x162 + (1 : Int)))
              bif (decide (x163 = (0 : Int))) then
                none
              else
                let x164 := (IntKind.i64.wrap (Int.tdiv (65536 : Int) x163))
                spec_l5Times N a93 x164
                  (fun x215 =>
                    spec_l5Times N a94 x164
                      (fun x216 =>
                        let x217 := ((x216.length : Nat) : Int)
                        let x218 := ((x215.length : Nat) : Int)
                        let x219 := IntKind.i64.wrap (x218 - x217)
                        let x220 := (IntKind.i64.wrap (x219 + (1 : Int)))
                        bif (decide ((0 : Int) ≤ x220)) then
                          bif decide (x220 ≤ x220) then
                            bif (decide (x220 ≤ ((8796093022208 : Nat) : Int))) then
                              let x221 := (List.replicate x220.toNat (0 : Int))
                              let x222 := ((x215.length : Nat) : Int)
                              let x223 := IntKind.i64.wrap (x222 - x217)
                              let x224 := (IntKind.i64.wrap (x223 + (1 : Int)))
                              spec_l5Top N x215 x224
                                (fun x237 =>
                                  let x238 := ((x215.length : Nat) : Int)
                                  let x239 := IntKind.i64.wrap (x238 - x217)
                                  spec_l5Div_L0 N N x164 x217 x239 x215 x216 x221 x237
                                    (fun x394 x395 x396 =>
                                      spec_l5DivSmall N x396 x394
                                        (fun _ x398 =>
                                          spec_l5Trim N x395
                                            (fun x399 =>
                                              k0 x399 x398))))
                            else
                              none
                          else
                            none
                        else
                          none))
            | none => none)
theorem spec_l5Div.ex : ∃ f : ((α : Type) → Nat → List Int → List Int → (List Int → List Int → Option α) → Option α), f = fun α => @spec_l5Div.b α := ⟨_, rfl⟩
noncomputable def spec_l5Div {α : Type} : Nat → List Int → List Int → (List Int → List Int → Option α) → Option α := Classical.choose spec_l5Div.ex α
theorem spec_l5Div.eq : @spec_l5Div = @spec_l5Div.b := funext fun α => congrFun (Classical.choose_spec spec_l5Div.ex) α

noncomputable def spec_l5Gcd_L0r {α : Type} (N : Nat) (next : List Int → List Int → Option α) (k0 : List Int → Option α) (v89 : List Int) (v90 : List Int) : Option α :=
  let x91 := ((v90.length : Nat) : Int)
  let x92 := (decide ((0 : Int) < x91))
  bif x92 then
    spec_l5Div N v89 v90
      (fun _ x401 =>
        next v90 x401)
  else
    k0 v89
noncomputable def spec_l5Gcd_L0.b {α : Type} (N n : Nat) (v89 : List Int) (v90 : List Int) (k0 : List Int → Option α) : Option α :=
  Nat.rec (motive := fun _ => List Int → List Int → Option α) (fun _ _ => none) (fun _ next => spec_l5Gcd_L0r N next k0) n v89 v90
theorem spec_l5Gcd_L0.ex : ∃ f : ((α : Type) → Nat → Nat → List Int → List Int → (List Int → Option α) → Option α), f = fun α => @spec_l5Gcd_L0.b α := ⟨_, rfl⟩
noncomputable def spec_l5Gcd_L0 {α : Type} : Nat → Nat → List Int → List Int → (List Int → Option α) → Option α := Classical.choose spec_l5Gcd_L0.ex α
theorem spec_l5Gcd_L0.eq : @spec_l5Gcd_L0 = @spec_l5Gcd_L0.b := funext fun α => congrFun (Classical.choose_spec spec_l5Gcd_L0.ex) α
theorem spec_l5Gcd_L0.zero {α : Type} (N : Nat) (v89 : List Int) (v90 : List Int) (k0 : List Int → Option α) : spec_l5Gcd_L0 N 0 v89 v90 k0 = none := by rw [spec_l5Gcd_L0.eq]; rfl
theorem spec_l5Gcd_L0.succ {α : Type} (N n : Nat) (v89 : List Int) (v90 : List Int) (k0 : List Int → Option α) : spec_l5Gcd_L0 N (n + 1) v89 v90 k0 = spec_l5Gcd_L0r N (fun y0 y1 => spec_l5Gcd_L0 N n y0 y1 k0) k0 v89 v90 := by rw [spec_l5Gcd_L0.eq]; rfl
/-- loop.example/pinfold/spec.l5Gcd -/
noncomputable def spec_l5Gcd.b {α : Type} (N : Nat) (a64 : List Int) (a65 : List Int) (k0 : List Int → Option α) : Option α :=
  spec_l5Trim N a64
    (fun x87 =>
      spec_l5Trim N a65
        (fun x88 =>
          spec_l5Gcd_L0 N N x87 x88
            (fun x402 =>
              k0 x402)))
theorem spec_l5Gcd.ex : ∃ f : ((α : Type) → Nat → List Int → List Int → (List Int → Option α) → Option α), f = fun α => @spec_l5Gcd.b α := ⟨_, rfl⟩
noncomputable def spec_l5Gcd {α : Type} : Nat → List Int → List Int → (List Int → Option α) → Option α := Classical.choose spec_l5Gcd.ex α
theorem spec_l5Gcd.eq : @spec_l5Gcd = @spec_l5Gcd.b := funext fun α => congrFun (Classical.choose_spec spec_l5Gcd.ex) α

/-- loop.example/pinfold/spec.l6One -/
noncomputable def spec_l6One.b {α : Type} (N : Nat) (a404 : List Int) (k0 : Bool → Option α) : Option α :=
  let x405 := ((a404.length : Nat) : Int)
  let x406 := (decide (x405 = (1 : Int)))
  bif x406 then
    match a404[0]? with
    | some x407 =>
      let x408 := (decide (x407 = (1 : Int)))
      k0 x408
    | none => none
  else
    k0 false
theorem spec_l6One.ex : ∃ f : ((α : Type) → Nat → List Int → (Bool → Option α) → Option α), f = fun α => @spec_l6One.b α := ⟨_, rfl⟩
noncomputable def spec_l6One {α : Type} : Nat → List Int → (Bool → Option α) → Option α := Classical.choose spec_l6One.ex α
theorem spec_l6One.eq : @spec_l6One = @spec_l6One.b := funext fun α => congrFun (Classical.choose_spec spec_l6One.ex) α

/-- loop.example/pinfold/spec.FracOk -/
noncomputable def spec_FracOk.b {α : Type} (N : Nat) (a35 : Bool × (List Int) × (List Int) × Unit) (k0 : Bool → Option α) : Option α :=
  spec_NatOk N a35.2.1
    (fun x56 =>
      let x57 := !x56
      bif x57 then
        k0 false
      else
        spec_NatOk N a35.2.2.1
          (fun x58 =>
            let x59 := !x58
            bif x59 then
              k0 false
            else
              let x60 := ((a35.2.2.1.length : Nat) : Int)
              let x61 := (decide (x60 = (0 : Int)))
              bif x61 then
                k0 false
              else
                let x62 := ((a35.2.1.length : Nat) : Int)
                let x63 := (decide (x62 = (0 : Int)))
                bif x63 then
                  bif a35.1 then
                    k0 false
                  else
                    spec_l5Gcd N a35.2.1 a35.2.2.1
                      (fun x403 =>
                        spec_l6One N x403
                          (fun x409 =>
                            k0 x409))
                else
                  spec_l5Gcd N a35.2.1 a35.2.2.1
                    (fun x410 =>
                      spec_l6One N x410
                        (fun x411 =>
                          k0 x411))))
theorem spec_FracOk.ex : ∃ f : ((α : Type) → Nat → (Bool × (List Int) × (List Int) × Unit) → (Bool → Option α) → Option α), f = fun α => @spec_FracOk.b α := ⟨_, rfl⟩
noncomputable def spec_FracOk {α : Type} : Nat → (Bool × (List Int) × (List Int) × Unit) → (Bool → Option α) → Option α := Classical.choose spec_FracOk.ex α
theorem spec_FracOk.eq : @spec_FracOk = @spec_FracOk.b := funext fun α => congrFun (Classical.choose_spec spec_FracOk.ex) α

/-- loop.example/pinfold/spec.FracSign -/
noncomputable def spec_FracSign.b {α : Type} (N : Nat) (a34 : Bool × (List Int) × (List Int) × Unit) (k0 : Int → Option α) : Option α :=
  spec_FracOk N a34
    (fun x412 =>
      let x413 := !x412
      bif x413 then
        k0 (0 : Int)
      else
        let x414 := ((a34.2.1.length : Nat) : Int)
        let x415 := (decide (x414 = (0 : Int)))
        bif x415 then
          k0 (0 : Int)
        else
          bif a34.1 then
            k0 (-1 : Int)
          else
            k0 (1 : Int))
theorem spec_FracSign.ex : ∃ f : ((α : Type) → Nat → (Bool × (List Int) × (List Int) × Unit) → (Int → Option α) → Option α), f = fun α => @spec_FracSign.b α := ⟨_, rfl⟩
noncomputable def spec_FracSign {α : Type} : Nat → (Bool × (List Int) × (List Int) × Unit) → (Int → Option α) → Option α := Classical.choose spec_FracSign.ex α
theorem spec_FracSign.eq : @spec_FracSign = @spec_FracSign.b := funext fun α => congrFun (Classical.choose_spec spec_FracSign.ex) α

/-- loop.example/pinfold/impl.in -/
noncomputable def impl_in.b {α : Type} (N : Nat) (a447 : Int) (a448 : Int) (a449 : Int) (k0 : Bool → Option α) : Option α :=
  let x450 := decide (a448 ≤ a447)
  bif x450 then
    let x451 := decide (a447 ≤ a449)
    k0 x451
  else
    k0 false
theorem impl_in.ex : ∃ f : ((α : Type) → Nat → Int → Int → Int → (Bool → Option α) → Option α), f = fun α => @impl_in.b α := ⟨_, rfl⟩
noncomputable def impl_in {α : Type} : Nat → Int → Int → Int → (Bool → Option α) → Option α := Classical.choose impl_in.ex α
theorem impl_in.eq : @impl_in = @impl_in.b := funext fun α => congrFun (Classical.choose_spec impl_in.ex) α

/-- loop.example/pinfold/impl.NatOk$1 -/
noncomputable def impl_NatOk_1.b {α : Type} (N : Nat) (a446 : Int) (k0 : Bool → Option α) : Option α :=
  impl_in N a446 (0 : Int) (65535 : Int)
    (fun x452 =>
      let x453 := !x452
      k0 x453)
theorem impl_NatOk_1.ex : ∃ f : ((α : Type) → Nat → Int → (Bool → Option α) → Option α), f = fun α => @impl_NatOk_1.b α := ⟨_, rfl⟩
noncomputable def impl_NatOk_1 {α : Type} : Nat → Int → (Bool → Option α) → Option α := Classical.choose impl_NatOk_1.ex α
theorem impl_NatOk_1.eq : @impl_NatOk_1 = @impl_NatOk_1.b := funext fun α => congrFun (Classical.choose_spec impl_NatOk_1.ex) α

noncomputable def slices_IndexFunc_int_int__impl_NatOk_1_L0r {α : Type} (N : Nat) (next : List Int → Int → Int → Option α) (k0 : Int → Option α) (k1 : Option α) (v441 : List Int) (v442 : Int) (v443 : Int) : Option α :=
  let x444 := decide (v443 < v442)
  bif x444 then
    bif (decide (v443 < (0 : Int))) then
      none
    else
      match v441[v443.toNat]? with
      | some x445 =>
        impl_NatOk_1 N x445
          (fun x454 =>
            bif x454 then
              k0 v443
            else
              let x455 := (IntKind.i64.wrap (v443 + (1 : Int)))
              next v441 v442 x455)
      | none => none
  else
    k1
noncomputable def slices_IndexFunc_int_int__impl_NatOk_1_L0.b {α : Type} (N n : Nat) (v441 : List Int) (v442 : Int) (v443 : Int) (k0 : Int → Option α) (k1 : Option α) : Option α :=
  Nat.rec (motive := fun _ => List Int → Int → Int → Option α) (fun _ _ _ => none) (fun _ next => slices_IndexFunc_int_int__impl_NatOk_1_L0r N next k0 k1) n v441 v442 v443
theorem slices_IndexFunc_int_int__impl_NatOk_1_L0.ex : ∃ f : ((α : Type) → Nat → Nat → List Int → Int → Int → (Int → Option α) → (Option α) → Option α), f = fun α => @slices_IndexFunc_int_int__impl_NatOk_1_L0.b α := ⟨_, rfl⟩
noncomputable def slices_IndexFunc_int_int__impl_NatOk_1_L0 {α : Type} : Nat → Nat → List Int → Int → Int → (Int → Option α) → (Option α) → Option α := Classical.choose slices_IndexFunc_int_int__impl_NatOk_1_L0.ex α
theorem slices_IndexFunc_int_int__impl_NatOk_1_L0.eq : @slices_IndexFunc_int_int__impl_NatOk_1_L0 = @slices_IndexFunc_int_int__impl_NatOk_1_L0.b := funext fun α => congrFun (Classical.choose_spec slices_IndexFunc_int_int__impl_NatOk_1_L0.ex) α
theorem slices_IndexFunc_int_int__impl_NatOk_1_L0.zero {α : Type} (N : Nat) (v441 : List Int) (v442 : Int) (v443 : Int) (k0 : Int → Option α) (k1 : Option α) : slices_IndexFunc_int_int__impl_NatOk_1_L0 N 0 v441 v442 v443 k0 k1 = none := by rw [slices_IndexFunc_int_int__impl_NatOk_1_L0.eq]; rfl
theorem slices_IndexFunc_int_int__impl_NatOk_1_L0.succ {α : Type} (N n : Nat) (v441 : List Int) (v442 : Int) (v443 : Int) (k0 : Int → Option α) (k1 : Option α) : slices_IndexFunc_int_int__impl_NatOk_1_L0 N (n + 1) v441 v442 v443 k0 k1 = slices_IndexFunc_int_int__impl_NatOk_1_L0r N (fun y0 y1 y2 => slices_IndexFunc_int_int__impl_NatOk_1_L0 N n y0 y1 y2 k0 k1) k0 k1 v441 v442 v443 := by rw [slices_IndexFunc_int_int__impl_NatOk_1_L0.eq]; rfl
/-- slices.IndexFunc[[]int,int] -/
noncomputable def slices_IndexFunc_int_int__impl_NatOk_1.b {α : Type} (N : Nat) (a439 : List Int) (k0 : Int → Option α) : Option α :=
  let x440 := ((a439.length : Nat) : Int)
  slices_IndexFunc_int_int__impl_NatOk_1_L0 N N a439 x440 (0 : Int)
    (fun x456 =>
      k0 x456)
    (
      k0 (-1 : Int))
theorem slices_IndexFunc_int_int__impl_NatOk_1.ex : ∃ f : ((α : Type) → Nat → List Int → (Int → Option α) → Option α), f = fun α => @slices_IndexFunc_int_int__impl_NatOk_1.b α := ⟨_, rfl⟩
noncomputable def slices_IndexFunc_int_int__impl_NatOk_1 {α : Type} : Nat → List Int → (Int → Option α) → Option α := Classical.choose slices_IndexFunc_int_int__impl_NatOk_1.ex α
theorem slices_IndexFunc_int_int__impl_NatOk_1.eq : @slices_IndexFunc_int_int__impl_NatOk_1 = @slices_IndexFunc_int_int__impl_NatOk_1.b := funext fun α => congrFun (Classical.choose_spec slices_IndexFunc_int_int__impl_NatOk_1.ex) α

/-- slices.ContainsFunc[[]int,int] -/
noncomputable def slices_ContainsFunc_int_int__impl_NatOk_1.b {α : Type} (N : Nat) (a438 : List Int) (k0 : Bool → Option α) : Option α :=
  slices_IndexFunc_int_int__impl_NatOk_1 N a438
    (fun x457 =>
      let x458 := (decide ((0 : Int) ≤ x457))
      k0 x458)
theorem slices_ContainsFunc_int_int__impl_NatOk_1.ex : ∃ f : ((α : Type) → Nat → List Int → (Bool → Option α) → Option α), f = fun α => @slices_ContainsFunc_int_int__impl_NatOk_1.b α := ⟨_, rfl⟩
noncomputable def slices_ContainsFunc_int_int__impl_NatOk_1 {α : Type} : Nat → List Int → (Bool → Option α) → Option α := Classical.choose slices_ContainsFunc_int_int__impl_NatOk_1.ex α
theorem slices_ContainsFunc_int_int__impl_NatOk_1.eq : @slices_ContainsFunc_int_int__impl_NatOk_1 = @slices_ContainsFunc_int_int__impl_NatOk_1.b := funext fun α => congrFun (Classical.choose_spec slices_ContainsFunc_int_int__impl_NatOk_1.ex) α

/-- loop.example/pinfold/impl.NatOk -/
noncomputable def impl_NatOk.b {α : Type} (N : Nat) (a433 : List Int) (k0 : Bool → Option α) : Option α :=
  let x434 := ((a433.length : Nat) : Int)
  let x435 := (decide (x434 ≤ (256 : Int)))
  bif x435 then
    let x436 := ((a433.length : Nat) : Int)
    let x437 := (decide (x436 = (0 : Int)))
    bif x437 then
      slices_ContainsFunc_int_int__impl_NatOk_1 N a433
        (fun x459 =>
          let x460 := !x459
          k0 x460)
    else
      let x461 := ((a433.length : Nat) : Int)
      let x462 := (IntKind.i64.wrap (x461 - (1 : Int)))
      bif (decide (x462 < (0 : Int))) then
        none
      else
        match a433[x462.toNat]? with
        | some x463 =>
          let x464 := (!(decide (x463 = (0 : Int))))
          bif x464 then
            slices_ContainsFunc_int_int__impl_NatOk_1 N a433
              (fun x465 =>
                let x466 := !x465
                k0 x466)
          else
            k0 false
        | none => none
  else
    k0 false
theorem impl_NatOk.ex : ∃ f : ((α : Type) → Nat → List Int → (Bool → Option α) → Option α), f = fun α => @impl_NatOk.b α := ⟨_, rfl⟩
noncomputable def impl_NatOk {α : Type} : Nat → List Int → (Bool → Option α) → Option α := Classical.choose impl_NatOk.ex α
theorem impl_NatOk.eq : @impl_NatOk = @impl_NatOk.b := funext fun α => congrFun (Classical.choose_spec impl_NatOk.ex) α

/-- loop.example/pinfold/impl.nats$1 -/
noncomputable def impl_nats_1.b {α : Type} (N : Nat) (a432 : List Int) (k0 : Bool → Option α) : Option α :=
  impl_NatOk N a432
    (fun x467 =>
      let x468 := !x467
      k0 x468)
theorem impl_nats_1.ex : ∃ f : ((α : Type) → Nat → List Int → (Bool → Option α) → Option α), f = fun α => @impl_nats_1.b α := ⟨_, rfl⟩
noncomputable def impl_nats_1 {α : Type} : Nat → List Int → (Bool → Option α) → Option α := Classical.choose impl_nats_1.ex α
theorem impl_nats_1.eq : @impl_nats_1 = @impl_nats_1.b := funext fun α => congrFun (Classical.choose_spec impl_nats_1.ex) α

noncomputable def slices_IndexFunc_int_int__impl_nats_1_L0r {α : Type} (N : Nat) (next : List (List Int) → Int → Int → Option α) (k0 : Int → Option α) (k1 : Option α) (v427 : List (List Int)) (v428 : Int) (v429 : Int) : Option α :=
  let x430 := decide (v429 < v428)
  bif x430 then
    bif (decide (v429 < (0 : Int))) then
      none
    else
      match v427[v429.toNat]? with
      | some x431 =>
        impl_nats_1 N x431
          (fun x469 =>
            bif x469 then
              k0 v429
            else
              let x470 := (IntKind.i64.wrap (v429 + (1 : Int)))
              next v427 v428 x470)
      | none => none
  else
    k1
noncomputable def slices_IndexFunc_int_int__impl_nats_1_L0.b {α : Type} (N n : Nat) (v427 : List (List Int)) (v428 : Int) (v429 : Int) (k0 : Int → Option α) (k1 : Option α) : Option α :=
  Nat.rec (motive := fun _ => List (List Int) → Int → Int → Option α) (fun _ _ _ => none) (fun _ next => slices_IndexFunc_int_int__impl_nats_1_L0r N next k0 k1) n v427 v428 v429
theorem slices_IndexFunc_int_int__impl_nats_1_L0.ex : ∃ f : ((α : Type) → Nat → Nat → List (List Int) → Int → Int → (Int → Option α) → (Option α) → Option α), f = fun α => @slices_IndexFunc_int_int__impl_nats_1_L0.b α := ⟨_, rfl⟩
noncomputable def slices_IndexFunc_int_int__impl_nats_1_L0 {α : Type} : Nat → Nat → List (List Int) → Int → Int → (Int → Option α) → (Option α) → Option α := Classical.choose slices_IndexFunc_int_int__impl_nats_1_L0.ex α
theorem slices_IndexFunc_int_int__impl_nats_1_L0.eq : @slices_IndexFunc_int_int__impl_nats_1_L0 = @slices_IndexFunc_int_int__impl_nats_1_L0.b := funext fun α => congrFun (Classical.choose_spec slices_IndexFunc_int_int__impl_nats_1_L0.ex) α
theorem slices_IndexFunc_int_int__impl_nats_1_L0.zero {α : Type} (N : Nat) (v427 : List (List Int)) (v428 : Int) (v429 : Int) (k0 : Int → Option α) (k1 : Option α) : slices_IndexFunc_int_int__impl_nats_1_L0 N 0 v427 v428 v429 k0 k1 = none := by rw [slices_IndexFunc_int_int__impl_nats_1_L0.eq]; rfl
theorem slices_IndexFunc_int_int__impl_nats_1_L0.succ {α : Type} (N n : Nat) (v427 : List (List Int)) (v428 : Int) (v429 : Int) (k0 : Int → Option α) (k1 : Option α) : slices_IndexFunc_int_int__impl_nats_1_L0 N (n + 1) v427 v428 v429 k0 k1 = slices_IndexFunc_int_int__impl_nats_1_L0r N (fun y0 y1 y2 => slices_IndexFunc_int_int__impl_nats_1_L0 N n y0 y1 y2 k0 k1) k0 k1 v427 v428 v429 := by rw [slices_IndexFunc_int_int__impl_nats_1_L0.eq]; rfl
/-- slices.IndexFunc[[][]int,[]int] -/
noncomputable def slices_IndexFunc_int_int__impl_nats_1.b {α : Type} (N : Nat) (a425 : List (List Int)) (k0 : Int → Option α) : Option α :=
  let x426 := ((a425.length : Nat) : Int)
  slices_IndexFunc_int_int__impl_nats_1_L0 N N a425 x426 (0 : Int)
    (fun x471 =>
      k0 x471)
    (
      k0 (-1 : Int))
theorem slices_IndexFunc_int_int__impl_nats_1.ex : ∃ f : ((α : Type) → Nat → List (List Int) → (Int → Option α) → Option α), f = fun α => @slices_IndexFunc_int_int__impl_nats_1.b α := ⟨_, rfl⟩
noncomputable def slices_IndexFunc_int_int__impl_nats_1 {α : Type} : Nat → List (List Int) → (Int → Option α) → Option α := Classical.choose slices_IndexFunc_int_int__impl_nats_1.ex α
theorem slices_IndexFunc_int_int__impl_nats_1.eq : @slices_IndexFunc_int_int__impl_nats_1 = @slices_IndexFunc_int_int__impl_nats_1.b := funext fun α => congrFun (Classical.choose_spec slices_IndexFunc_int_int__impl_nats_1.ex) α

/-- slices.ContainsFunc[[][]int,[]int] -/
noncomputable def slices_ContainsFunc_int_int__impl_nats_1.b {α : Type} (N : Nat) (a424 : List (List Int)) (k0 : Bool → Option α) : Option α :=
  slices_IndexFunc_int_int__impl_nats_1 N a424
    (fun x472 =>
      let x473 := (decide ((0 : Int) ≤ x472))
      k0 x473)
theorem slices_ContainsFunc_int_int__impl_nats_1.ex : ∃ f : ((α : Type) → Nat → List (List Int) → (Bool → Option α) → Option α), f = fun α => @slices_ContainsFunc_int_int__impl_nats_1.b α := ⟨_, rfl⟩
noncomputable def slices_ContainsFunc_int_int__impl_nats_1 {α : Type} : Nat → List (List Int) → (Bool → Option α) → Option α := Classical.choose slices_ContainsFunc_int_int__impl_nats_1.ex α
theorem slices_ContainsFunc_int_int__impl_nats_1.eq : @slices_ContainsFunc_int_int__impl_nats_1 = @slices_ContainsFunc_int_int__impl_nats_1.b := funext fun α => congrFun (Classical.choose_spec slices_ContainsFunc_int_int__impl_nats_1.ex) α

/-- loop.example/pinfold/impl.nats -/
noncomputable def impl_nats.b {α : Type} (N : Nat) (a423 : List (List Int)) (k0 : Bool → Option α) : Option α :=
  slices_ContainsFunc_int_int__impl_nats_1 N a423
    (fun x474 =>
      let x475 := !x474
      k0 x475)
theorem impl_nats.ex : ∃ f : ((α : Type) → Nat → List (List Int) → (Bool → Option α) → Option α), f = fun α => @impl_nats.b α := ⟨_, rfl⟩
noncomputable def impl_nats {α : Type} : Nat → List (List Int) → (Bool → Option α) → Option α := Classical.choose impl_nats.ex α
theorem impl_nats.eq : @impl_nats = @impl_nats.b := funext fun α => congrFun (Classical.choose_spec impl_nats.ex) α

noncomputable def impl_natCmp_L0r {α : Type} (N : Nat) (next : List Int → List Int → Int → Option α) (k0 : Int → Option α) (k1 : Option α) (v570 : List Int) (v571 : List Int) (v572 : Int) : Option α :=
  let x573 := (decide ((0 : Int) ≤ v572))
  bif x573 then
    bif (decide (v572 < (0 : Int))) then
      none
    else
      match v570[v572.toNat]? with
      | some x574 =>
        bif (decide (v572 < (0 : Int))) then
          none
        else
          match v571[v572.toNat]? with
          | some x575 =>
            let x576 := !(decide (x574 = x575))
            bif x576 then
              bif (decide (v572 < (0 : Int))) then
                none
              else
                match v570[v572.toNat]? with
                | some x577 =>
                  bif (decide (v572 < (0 : Int))) then
                    none
                  else
                    match v571[v572.toNat]? with
                    | some x578 =>
                      let x579 := IntKind.i64.wrap (x577 - x578)
                      let x580 := (minI (1 : Int) x579)
                      let x581 := (maxI (-1 : Int) x580)
                      k0 x581
                    | none => none
                | none => none
            else
              let x582 := (IntKind.i64.wrap (v572 - (1 : Int)))
              next v570 v571 x582
          | none => none
      | none => none
  else
    k1
noncomputable def impl_natCmp_L0.b {α : Type} (N n : Nat) (v570 : List Int) (v571 : List Int) (v572 : Int) (k0 : Int → Option α) (k1 : Option α) : Option α :=
  Nat.rec (motive := fun _ => List Int → List Int → Int → Option α) (fun _ _ _ => none) (fun _ next => impl_natCmp_L0r N next k0 k1) n v570 v571 v572
theorem impl_natCmp_L0.ex : ∃ f : ((α : Type) → Nat → Nat → List Int → List Int → Int → (Int → Option α) → (Option α) → Option α), f = fun α => @impl_natCmp_L0.b α := ⟨_, rfl⟩
noncomputable def impl_natCmp_L0 {α : Type} : Nat → Nat → List Int → List Int → Int → (Int → Option α) → (Option α) → Option α := Classical.choose impl_natCmp_L0.ex α
theorem impl_natCmp_L0.eq : @impl_natCmp_L0 = @impl_natCmp_L0.b := funext fun α => congrFun (Classical.choose_spec impl_natCmp_L0.ex) α
theorem impl_natCmp_L0.zero {α : Type} (N : Nat) (v570 : List Int) (v571 : List Int) (v572 : Int) (k0 : Int → Option α) (k1 : Option α) : impl_natCmp_L0 N 0 v570 v571 v572 k0 k1 = none := by rw [impl_natCmp_L0.eq]; rfl
theorem impl_natCmp_L0.succ {α : Type} (N n : Nat) (v570 : List Int) (v571 : List Int) (v572 : Int) (k0 : Int → Option α) (k1 : Option α) : impl_natCmp_L0 N (n + 1) v570 v571 v572 k0 k1 = impl_natCmp_L0r N (fun y0 y1 y2 => impl_natCmp_L0 N n y0 y1 y2 k0 k1) k0 k1 v570 v571 v572 := by rw [impl_natCmp_L0.eq]; rfl
/-- loop.example/pinfold/impl.natCmp -/
noncomputable def impl_natCmp.b {α : Type} (N : Nat) (a558 : List Int) (a559 : List Int) (k0 : Int → Option α) : Option α :=
  let x560 := ((a558.length : Nat) : Int)
  let x561 := ((a559.length : Nat) : Int)
  let x562 := !(decide (x560 = x561))
  bif x562 then
    let x563 := ((a558.length : Nat) : Int)
    let x564 := ((a559.length : Nat) : Int)
    let x565 := IntKind.i64.wrap (x563 - x564)
    let x566 := (minI (1 : Int) x565)
    let x567 := (maxI (-1 : Int) x566)
    k0 x567
  else
    let x568 := ((a558.length : Nat) : Int)
    let x569 := (IntKind.i64.wrap (x568 - (1 : Int)))
    impl_natCmp_L0 N N a558 a559 x569
      (fun x583 =>
        k0 x583)
      (
        k0 (0 : Int))
theorem impl_natCmp.ex : ∃ f : ((α : Type) → Nat → List Int → List Int → (Int → Option α) → Option α), f = fun α => @impl_natCmp.b α := ⟨_, rfl⟩
noncomputable def impl_natCmp {α : Type} : Nat → List Int → List Int → (Int → Option α) → Option α := Classical.choose impl_natCmp.ex α
theorem impl_natCmp.eq : @impl_natCmp = @impl_natCmp.b := funext fun α => congrFun (Classical.choose_spec impl_natCmp.ex) α

noncomputable def impl_trim_L0r {α : Type} (N : Nat) (next : List Int → Option α) (k0 : List Int → Option α) (v611 : List Int) : Option α :=
  let x612 := ((v611.length : Nat) : Int)
  let x613 := (decide ((0 : Int) < x612))
  bif x613 then
    let x614 := ((v611.length : Nat) : Int)
    let x615 := (IntKind.i64.wrap (x614 - (1 : Int)))
    bif (decide (x615 < (0 : Int))) then
      none
    else
      match v611[x615.toNat]? with
      | some x616 =>
        let x617 := (decide (x616 = (0 : Int)))
        bif x617 then
          let x618 := ((v611.length : Nat) : Int)
          let x619 := (IntKind.i64.wrap (x618 - (1 : Int)))
          bif (decide ((0 : Int) ≤ x619)) then
            bif (decide (x619 ≤ ((v611.length : Nat) : Int))) then
              let x620 := v611.take x619.toNat
              next x620
            else
              none
          else
            none
        else
          k0 v611
      | none => none
  else
    k0 v611
noncomputable def impl_trim_L0.b {α : Type} (N n : Nat) (v611 : List Int) (k0 : List Int → Option α) : Option α :=
  Nat.rec (motive := fun _ => List Int → Option α) (fun _ => none) (fun _ next => impl_trim_L0r N next k0) n v611
theorem impl_trim_L0.ex : ∃ f : ((α : Type) → Nat → Nat → List Int → (List Int → Option α) → Option α), f = fun α => @impl_trim_L0.b α := ⟨_, rfl⟩
noncomputable def impl_trim_L0 {α : Type} : Nat → Nat → List Int → (List Int → Option α) → Option α := Classical.choose impl_trim_L0.ex α
theorem impl_trim_L0.eq : @impl_trim_L0 = @impl_trim_L0.b := funext fun α => congrFun (Classical.choose_spec impl_trim_L0.ex) α
theorem impl_trim_L0.zero {α : Type} (N : Nat) (v611 : List Int) (k0 : List Int → Option α) : impl_trim_L0 N 0 v611 k0 = none := by rw [impl_trim_L0.eq]; rfl
theorem impl_trim_L0.succ {α : Type} (N n : Nat) (v611 : List Int) (k0 : List Int → Option α) : impl_trim_L0 N (n + 1) v611 k0 = impl_trim_L0r N (fun y0 => impl_trim_L0 N n y0 k0) k0 v611 := by rw [impl_trim_L0.eq]; rfl
/-- loop.example/pinfold/impl.trim -/
noncomputable def impl_trim.b {α : Type} (N : Nat) (a610 : List Int) (k0 : List Int → Option α) : Option α :=
  impl_trim_L0 N N a610
    (fun x621 =>
      k0 x621)
theorem impl_trim.ex : ∃ f : ((α : Type) → Nat → List Int → (List Int → Option α) → Option α), f = fun α => @impl_trim.b α := ⟨_, rfl⟩
noncomputable def impl_trim {α : Type} : Nat → List Int → (List Int → Option α) → Option α := Classical.choose impl_trim.ex α
theorem impl_trim.eq : @impl_trim = @impl_trim.b := funext fun α => congrFun (Classical.choose_spec impl_trim.ex) α

noncomputable def math_bits_Len64_J1.b {α : Type} (N : Nat) (v631 : Int) (v632 : Int) (k0 : Int → Int → Option α) : Option α :=
  let x633 := (decide ((4294967296 : Int) ≤ v631))
  bif x633 then
    let x634 := (shrI .u64 v631 (32 : Int))
    k0 x634 (32 : Int)
  else
    k0 v631 v632
theorem math_bits_Len64_J1.ex : ∃ f : ((α : Type) → Nat → Int → Int → (Int → Int → Option α) → Option α), f = fun α => @math_bits_Len64_J1.b α := ⟨_, rfl⟩
noncomputable def math_bits_Len64_J1 {α : Type} : Nat → Int → Int → (Int → Int → Option α) → Option α := Classical.choose math_bits_Len64_J1.ex α
theorem math_bits_Len64_J1.eq : @math_bits_Len64_J1 = @math_bits_Len64_J1.b := funext fun α => congrFun (Classical.choose_spec math_bits_Len64_J1.ex) α
noncomputable def math_bits_Len64_J4.b {α : Type} (N : Nat) (v637 : Int) (v638 : Int) (k0 : Int → Int → Option α) : Option α :=
  let x639 := (decide ((65536 : Int) ≤ v637))
  bif x639 then
    let x640 := (shrI .u64 v637 (16 : Int))
    let x641 := (IntKind.i64.wrap (v638 + (16 : Int)))
    k0 x640 x641
  else
    k0 v637 v638
theorem math_bits_Len64_J4.ex : ∃ f : ((α : Type) → Nat → Int → Int → (Int → Int → Option α) → Option α), f = fun α => @math_bits_Len64_J4.b α := ⟨_, rfl⟩
noncomputable def math_bits_Len64_J4 {α : Type} : Nat → Int → Int → (Int → Int → Option α) → Option α := Classical.choose math_bits_Len64_J4.ex α
theorem math_bits_Len64_J4.eq : @math_bits_Len64_J4 = @math_bits_Len64_J4.b := funext fun α => congrFun (Classical.choose_spec math_bits_Len64_J4.ex) α
noncomputable def math_bits_Len64_J7.b {α : Type} (N : Nat) (v644 : Int) (v645 : Int) (k0 : Int → Int → Option α) : Option α :=
  let x646 := (decide ((256 : Int) ≤ v644))
  bif x646 then
    let x647 := (shrI .u64 v644 (8 : Int))
    let x648 := (IntKind.i64.wrap (v645 + (8 : Int)))
    k0 x647 x648
  else
    k0 v644 v645
theorem math_bits_Len64_J7.ex : ∃ f : ((α : Type) → Nat → Int → Int → (Int → Int → Option α) → Option α), f = fun α => @math_bits_Len64_J7.b α := ⟨_, rfl⟩
noncomputable def math_bits_Len64_J7 {α : Type} : Nat → Int → Int → (Int → Int → Option α) → Option α := Classical.choose math_bits_Len64_J7.ex α
theorem math_bits_Len64_J7.eq : @math_bits_Len64_J7 = @math_bits_Len64_J7.b := funext fun α => congrFun (Classical.choose_spec math_bits_Len64_J7.ex) α
/-- math/bits.Len64 -/
noncomputable def math_bits_Len64.b {α : Type} (N : Nat) (a630 : Int) (k0 : Int → Option α) : Option α :=
  math_bits_Len64_J1 N a630 (0 : Int)
    (fun x635 x636 =>
      math_bits_Len64_J4 N x635 x636
        (fun x642 x643 =>
          math_bits_Len64_J7 N x642 x643
            (fun x649 x650 =>
              let x651 := IntKind.u8.wrap x649
              bif (decide (x651 < (0 : Int))) then
                none
              else
                match ((⟨#[0, 1, 2, 2, 3, 3, 3, 3, 4, 4, 4, 4, 4, 4, 4, 4, 5, 5, 5, 5, 5, 5, 5, 5, 5, 5, 5, 5, 5, 5, 5, 5, 6, 6, 6, 6, 6, 6, 6, 6, 6, 6, 6, 6, 6, 6, 6, 6, 6, 6, 6, 6, 6, 6, 6, 6, 6, 6, 6, 6, 6, 6, 6, 6, 7, 7, 7, 7, 7, 7, 7, 7, 7, 7, 7, 7, 7, 7, 7, 7, 7, 7, 7, 7, 7, 7, 7, 7, 7, 7, 7, 7, 7, 7, 7, 7, 7, 7, 7, 7, 7, 7, 7, 7, 7, 7, 7, 7, 7, 7, 7, 7, 7, 7, 7, 7, 7, 7, 7, 7, 7, 7, 7, 7, 7, 7, 7, 7, 8, 8, 8, 8, 8, 8, 8, 8, 8, 8, 8, 8, 8, 8, 8, 8, 8, 8, 8, 8, 8, 8, 8, 8, 8, 8, 8, 8, 8, 8, 8, 8, 8, 8, 8, 8, 8, 8, 8, 8, 8, 8, 8, 8, 8, 8, 8, 8, 8, 8, 8, 8, 8, 8, 8, 8, 8, 8, 8, 8, 8, 8, 8, 8, 8, 8, 8, 8, 8, 8, 8, 8, 8, 8, 8, 8, 8, 8, 8, 8, 8, 8, 8, 8, 8, 8, 8, 8, 8, 8, 8, 8, 8, 8, 8, 8, 8, 8, 8, 8, 8, 8, 8, 8, 8, 8, 8, 8, 8, 8, 8, 8, 8, 8, 8, 8, 8, 8, 8, 8, 8, 8, 8, 8, 8, 8, 8, 8]⟩ : ByteArray)[x651.toNat]? : Option UInt8) with
                | some x652 =>
                  let x653 := ((x652.toNat : Nat) : Int)
                  let x654 := IntKind.i64.wrap x653
                  let x655 := IntKind.i64.wrap (x650 + x654)
                  k0 x655
                | none => none)))
theorem math_bits_Len64.ex : ∃ f : ((α : Type) → Nat → Int → (Int → Option α) → Option α), f = fun α => @math_bits_Len64.b α := ⟨_, rfl⟩
noncomputable def math_bits_Len64 {α : Type} : Nat → Int → (Int → Option α) → Option α := Classical.choose math_bits_Len64.ex α
theorem math_bits_Len64.eq : @math_bits_Len64 = @math_bits_Len64.b := funext fun α => congrFun (Classical.choose_spec math_bits_Len64.ex) α

/-- math/bits.Len -/
noncomputable def math_bits_Len.b {α : Type} (N : Nat) (a629 : Int) (k0 : Int → Option α) : Option α :=
  math_bits_Len64 N a629
    (fun x656 =>
      k0 x656)
theorem math_bits_Len.ex : ∃ f : ((α : Type) → Nat → Int → (Int → Option α) → Option α), f = fun α => @math_bits_Len.b α := ⟨_, rfl⟩
noncomputable def math_bits_Len {α : Type} : Nat → Int → (Int → Option α) → Option α := Classical.choose math_bits_Len.ex α
theorem math_bits_Len.eq : @math_bits_Len = @math_bits_Len.b := funext fun α => congrFun (Classical.choose_spec math_bits_Len.ex) α

/-- slices.Clone[[]int,int] -/
noncomputable def slices_Clone_int_int {α : Type} (N : Nat) (a1 : List Int) (k0 : List Int → Option α) : Option α :=
  bif decide (([] : List Int).length + a1.length ≤ 8796093022208) then k0 a1 else none

noncomputable def impl_natShift_J10.b {α : Type} (N : Nat) (v735 : List Int) (v736 : Int) (v737 : Int) (v738 : Int) (v739 : Int) (v740 : Int) (v741 : List Int) (k0 : List Int → Int → Int → Int → Int → List Int → Option α) : Option α :=
  let x742 := IntKind.i64.wrap (v736 + v738)
  let x743 := (IntKind.i64.wrap (x742 + (1 : Int)))
  let x744 := ((v735.length : Nat) : Int)
  let x745 := decide (x743 < x744)
  bif x745 then
    bif (decide (v738 < (0 : Int))) then
      none
    else
      bif decide (v738.toNat < v741.length) then
        match v741[v738.toNat]? with
        | some x746 =>
          let x747 := IntKind.i64.wrap (v736 + v738)
          let x748 := (IntKind.i64.wrap (x747 + (1 : Int)))
          bif (decide (x748 < (0 : Int))) then
            none
          else
            match v735[x748.toNat]? with
            | some x749 =>
              let x750 := (IntKind.i64.wrap ((16 : Int) - v737))
              bif (decide (x750 < (0 : Int))) then
                none
              else
                let x751 := shlI .i64 x749 x750
                let x752 := (bitI .and .i64 x751 (65535 : Int))
                let x753 := bitI .or .i64 x746 x752
                bif (decide (v738 < (0 : Int))) then
                  none
                else
                  bif decide (v738.toNat < v741.length) then
                    match v741[v738.toNat]? with
                    | some x754 =>
                      let x755 := v741.set v738.toNat x753
                      k0 v735 v736 v737 v739 v740 x755
                    | none => none
                  else
                    none
            | none => none
        | none => none
      else
        none
  else
    k0 v735 v736 v737 v739 v740 v741
theorem impl_natShift_J10.ex : ∃ f : ((α : Type) → Nat → List Int → Int → Int → Int → Int → Int → List Int → (List Int → Int → Int → Int → Int → List Int → Option α) → Option α), f = fun α => @impl_natShift_J10.b α := ⟨_, rfl⟩
noncomputable def impl_natShift_J10 {α : Type} : Nat → List Int → Int → Int → Int → Int → Int → List Int → (List Int → Int → Int → Int → Int → List Int → Option α) → Option α := Classical.choose impl_natShift_J10.ex α
theorem impl_natShift_J10.eq : @impl_natShift_J10 = @impl_natShift_J10.b := funext fun α => congrFun (Classical.choose_spec impl_natShift_J10.ex) α
noncomputable def impl_natShift_L0r {α : Type} (N : Nat) (next : List Int → Int → Int → Int → Int → List Int → Option α) (k0 : List Int → Option α) (v724 : List Int) (v725 : Int) (v726 : Int) (v727 : Int) (v728 : Int) (v729 : List Int) : Option α :=
  let x730 := decide (v728 < v727)
  bif x730 then
    bif (decide (v728 < (0 : Int))) then
      none
    else
      bif decide (v728.toNat < v729.length) then
        match v729[v728.toNat]? with
        | some x731 =>
          bif (decide (v726 < (0 : Int))) then
            none
          else
            let x732 := shrI .i64 x731 v726
            bif (decide (v728 < (0 : Int))) then
              none
            else
              bif decide (v728.toNat < v729.length) then
                match v729[v728.toNat]? with
                | some x733 =>
                  let x734 := v729.set v728.toNat x732
                  impl_natShift_J10 N v724 v725 v726 v728 v727 v728 x734
                    (fun x756 x757 x758 x759 x760 x761 =>
                      let x762 := (IntKind.i64.wrap (x760 + (1 : Int)))
                      next x756 x757 x758 x759 x762 x761)
                | none => none
              else
                none
        | none => none
      else
        none
  else
    k0 v729
noncomputable def impl_natShift_L0.b {α : Type} (N n : Nat) (v724 : List Int) (v725 : Int) (v726 : Int) (v727 : Int) (v728 : Int) (v729 : List Int) (k0 : List Int → Option α) : Option α :=
  Nat.rec (motive := fun _ => List Int → Int → Int → Int → Int → List Int → Option α) (fun _ _ _ _ _ _ => none) (fun _ next => impl_natShift_L0r N next k0) n v724 v725 v726 v727 v728 v729
theorem impl_natShift_L0.ex : ∃ f : ((α : Type) → Nat → Nat → List Int → Int → Int → Int → Int → List Int → (List Int → Option α) → Option α), f = fun α => @impl_natShift_L0.b α := ⟨_, rfl⟩
noncomputable def impl_natShift_L0 {α : Type} : Nat → Nat → List Int → Int → Int → Int → Int → List Int → (List Int → Option α) → Option α := Classical.choose impl_natShift_L0.ex α
theorem impl_natShift_L0.eq : @impl_natShift_L0 = @impl_natShift_L0.b := funext fun α => congrFun (Classical.choose_spec impl_natShift_L0.ex) α
theorem impl_natShift_L0.zero {α : Type} (N : Nat) (v724 : List Int) (v725 : Int) (v726 : Int) (v727 : Int) (v728 : Int) (v729 : List Int) (k0 : List Int → Option α) : impl_natShift_L0 N 0 v724 v725 v726 v727 v728 v729 k0 = none := by rw [impl_natShift_L0.eq]; rfl
theorem impl_natShift_L0.succ {α : Type} (N n : Nat) (v724 : List Int) (v725 : Int) (v726 : Int) (v727 : Int) (v728 : Int) (v729 : List Int) (k0 : List Int → Option α) : impl_natShift_L0 N (n + 1) v724 v725 v726 v727 v728 v729 k0 = impl_natShift_L0r N (fun y0 y1 y2 y3 y4 y5 => impl_natShift_L0 N n y0 y1 y2 y3 y4 y5 k0) k0 v724 v725 v726 v727 v728 v729 := by rw [impl_natShift_L0.eq]; rfl
noncomputable def impl_natShift_L2r {α : Type} (N : Nat) (next : Int → List Int → Int → Int → List Int → Option α) (k0 : List Int → Option α) (v771 : Int) (v772 : List Int) (v773 : Int) (v774 : Int) (v775 : List Int) : Option α :=
  let x776 := decide (v774 < v773)
  bif x776 then
    bif (decide (v774 < (0 : Int))) then
      none
    else
      match v772[v774.toNat]? with
      | some x777 =>
        let x778 := (Int.tmod v771 (16 : Int))
        bif (decide (x778 < (0 : Int))) then
          none
        else
          let x779 := shlI .i64 x777 x778
          let x780 := (IntKind.i64.wrap (Int.tdiv v771 (16 : Int)))
          let x781 := IntKind.i64.wrap (x780 + v774)
          bif (decide (x781 < (0 : Int))) then
            none
          else
            bif decide (x781.toNat < v775.length) then
              match v775[x781.toNat]? with
              | some x782 =>
                let x783 := (bitI .and .i64 x779 (65535 : Int))
                let x784 := bitI .or .i64 x782 x783
                bif (decide (x781 < (0 : Int))) then
                  none
                else
                  bif decide (x781.toNat < v775.length) then
                    match v775[x781.toNat]? with
                    | some x785 =>
                      let x786 := v775.set x781.toNat x784
                      let x787 := (IntKind.i64.wrap (Int.tdiv v771 (16 : Int)))
                      let x788 := IntKind.i64.wrap (x787 + v774)
                      let x789 := (IntKind.i64.wrap (x788 + (1 : Int)))
                      let x790 := (shrI .i64 x779 (16 : Int))
                      bif (decide (x789 < (0 : Int))) then
                        none
                      else
                        bif decide (x789.toNat < x786.length) then
                          match x786[x789.toNat]? with
                          | some x791 =>
                            let x792 := x786.set x789.toNat x790
                            let x793 := (IntKind.i64.wrap (v774 + (1 : Int)))
                            next v771 v772 v773 x793 x792
                          | none => none
                        else
                          none
                    | none => none
                  else
                    none
              | none => none
            else
              none
      | none => none
  else
    k0 v775
noncomputable def impl_natShift_L2.b {α : Type} (N n : Nat) (v771 : Int) (v772 : List Int) (v773 : Int) (v774 : Int) (v775 : List Int) (k0 : List Int → Option α) : Option α :=
  Nat.rec (motive := fun _ => Int → List Int → Int → Int → List Int → Option α) (fun _ _ _ _ _ => none) (fun _ next => impl_natShift_L2r N next k0) n v771 v772 v773 v774 v775
theorem impl_natShift_L2.ex : ∃ f : ((α : Type) → Nat → Nat → Int → List Int → Int → Int → List Int → (List Int → Option α) → Option α), f = fun α => @impl_natShift_L2.b α := ⟨_, rfl⟩
noncomputable def impl_natShift_L2 {α : Type} : Nat → Nat → Int → List Int → Int → Int → List Int → (List Int → Option α) → Option α := Classical.choose impl_natShift_L2.ex α
theorem impl_natShift_L2.eq : @impl_natShift_L2 = @impl_natShift_L2.b := funext fun α => congrFun (Classical.choose_spec impl_natShift_L2.ex) α
theorem impl_natShift_L2.zero {α : Type} (N : Nat) (v771 : Int) (v772 : List Int) (v773 : Int) (v774 : Int) (v775 : List Int) (k0 : List Int → Option α) : impl_natShift_L2 N 0 v771 v772 v773 v774 v775 k0 = none := by rw [impl_natShift_L2.eq]; rfl
theorem impl_natShift_L2.succ {α : Type} (N n : Nat) (v771 : Int) (v772 : List Int) (v773 : Int) (v774 : Int) (v775 : List Int) (k0 : List Int → Option α) : impl_natShift_L2 N (n + 1) v771 v772 v773 v774 v775 k0 = impl_natShift_L2r N (fun y0 y1 y2 y3 y4 => impl_natShift_L2 N n y0 y1 y2 y3 y4 k0) k0 v771 v772 v773 v774 v775 := by rw [impl_natShift_L2.eq]; rfl
/-- loop.example/pinfold/impl.natShift -/
noncomputable def impl_natShift.b {α : Type} (N : Nat) (a712 : List Int) (a713 : Int) (k0 : List Int → Option α) : Option α :=
  let x714 := (decide (a713 < (0 : Int)))
  bif x714 then
    let x715 := IntKind.i64.wrap (0 - a713)
    let x716 := (IntKind.i64.wrap (Int.tdiv x715 (16 : Int)))
    let x717 := IntKind.i64.wrap (0 - a713)
    let x718 := (Int.tmod x717 (16 : Int))
    let x719 := ((a712.length : Nat) : Int)
    let x720 := decide (x719 ≤ x716)
    bif x720 then
      k0 []
    else
      bif (decide ((0 : Int) ≤ x716)) then
        bif (decide (x716 ≤ ((a712.length : Nat) : Int))) then
          let x721 := a712.drop x716.toNat
          slices_Clone_int_int N x721
            (fun x722 =>
              let x723 := ((x722.length : Nat) : Int)
              impl_natShift_L0 N N a712 x716 x718 x723 (0 : Int) x722
                (fun x763 =>
                  impl_trim N x763
                    (fun x764 =>
                      k0 x764)))
        else
          none
      else
        none
  else
    let x765 := (IntKind.i64.wrap (Int.tdiv a713 (16 : Int)))
    let x766 := ((a712.length : Nat) : Int)
    let x767 := IntKind.i64.wrap (x765 + x766)
    let x768 := (IntKind.i64.wrap (x767 + (1 : Int)))
    bif (decide ((0 : Int) ≤ x768)) then
      bif decide (x768 ≤ x768) then
        bif (decide (x768 ≤ ((8796093022208 : Nat) : Int))) then
          let x769 := (List.replicate x768.toNat (0 : Int))
          let x770 := ((a712.length : Nat) : Int)
          impl_natShift_L2 N N a713 a712 x770 (0 : Int) x769
            (fun x794 =>
              impl_trim N x794
                (fun x795 =>
                  k0 x795))
        else
          none
      else
        none
    else
      none
theorem impl_natShift.ex : ∃ f : ((α : Type) → Nat → List Int → Int → (List Int → Option α) → Option α), f = fun α => @impl_natShift.b α := ⟨_, rfl⟩
noncomputable def impl_natShift {α : Type} : Nat → List Int → Int → (List Int → Option α) → Option α := Classical.choose impl_natShift.ex α
theorem impl_natShift.eq : @impl_natShift = @impl_natShift.b := funext fun α => congrFun (Classical.choose_spec impl_natShift.ex) α

noncomputable def impl_natDiv_L0r {α : Type} (N : Nat) (next : List Int → List Int → Int → Int → List Int → Option α) (k0 : Int → List Int → Option α) (v592 : List Int) (v593 : List Int) (v594 : Int) (v595 : Int) (v596 : List Int) : Option α :=
  let x597 := (decide ((0 : Int) ≤ v595))
  bif x597 then
    let x598 := (shlI .i64 v594 (16 : Int))
    bif (decide (v595 < (0 : Int))) then
      none
    else
      match v592[v595.toNat]? with
      | some x599 =>
        let x600 := bitI .or .i64 x598 x599
        match v593[0]? with
        | some x601 =>
          bif (decide (x601 = (0 : Int))) then
            none
          else
            let x602 := IntKind.i64.wrap (Int.tdiv x600 x601)
            match v593[0]? with
            | some x603 =>
              bif (decide (x603 = (0 : Int))) then
                none
              else
                let x604 := Int.tmod x600 x603
                bif (decide (v595 < (0 : Int))) then
                  none
                else
                  bif decide (v595.toNat < v596.length) then
                    match v596[v595.toNat]? with
                    | some x605 =>
                      let x606 := v596.set v595.toNat x602
                      let x607 := (IntKind.i64.wrap (v595 - (1 : Int)))
                      next v592 v593 x604 x607 x606
                    | none => none
                  else
                    none
            | none => none
        | none => none
      | none => none
  else
    k0 v594 v596
noncomputable def impl_natDiv_L0.b {α : Type} (N n : Nat) (v592 : List Int) (v593 : List Int) (v594 : Int) (v595 : Int) (v596 : List Int) (k0 : Int → List Int → Option α) : Option α :=
  Nat.rec (motive := fun _ => List Int → List Int → Int → Int → List Int → Option α) (fun _ _ _ _ _ => none) (fun _ next => impl_natDiv_L0r N next k0) n v592 v593 v594 v595 v596
theorem impl_natDiv_L0.ex : ∃ f : ((α : Type) → Nat → Nat → List Int → List Int → Int → Int → List Int → (Int → List Int → Option α) → Option α), f = fun α => @impl_natDiv_L0.b α := ⟨_, rfl⟩
noncomputable def impl_natDiv_L0 {α : Type} : Nat → Nat → List Int → List Int → Int → Int → List Int → (Int → List Int → Option α) → Option α := Classical.choose impl_natDiv_L0.ex α
theorem impl_natDiv_L0.eq : @impl_natDiv_L0 = @impl_natDiv_L0.b := funext fun α => congrFun (Classical.choose_spec impl_natDiv_L0.ex) α
theorem impl_natDiv_L0.zero {α : Type} (N : Nat) (v592 : List Int) (v593 : List Int) (v594 : Int) (v595 : Int) (v596 : List Int) (k0 : Int → List Int → Option α) : impl_natDiv_L0 N 0 v592 v593 v594 v595 v596 k0 = none := by rw [impl_natDiv_L0.eq]; rfl
theorem impl_natDiv_L0.succ {α : Type} (N n : Nat) (v592 : List Int) (v593 : List Int) (v594 : Int) (v595 : Int) (v596 : List Int) (k0 : Int → List Int → Option α) : impl_natDiv_L0 N (n + 1) v592 v593 v594 v595 v596 k0 = impl_natDiv_L0r N (fun y0 y1 y2 y3 y4 => impl_natDiv_L0 N n y0 y1 y2 y3 y4 k0) k0 v592 v593 v594 v595 v596 := by rw [impl_natDiv_L0.eq]; rfl
noncomputable def impl_natDiv_L2r {α : Type} (N : Nat) (next : List Int → Int → List Int → Int → List Int → Option α) (k0 : Int → List Int → Int → List Int → Option α) (v802 : List Int) (v803 : Int) (v804 : List Int) (v805 : Int) (v806 : List Int) : Option α :=
  let x807 := ((v806.length : Nat) : Int)
  let x808 := ((v802.length : Nat) : Int)
  let x809 := (IntKind.i64.wrap (x808 + (1 : Int)))
  let x810 := decide (x807 < x809)
  bif x810 then
    let x811 := [(0 : Int)]
    bif decide (v806.length + x811.length ≤ 8796093022208) then
      let x812 := v806 ++ x811
      next v802 v803 v804 v805 x812
    else
      none
  else
    k0 v803 v804 v805 v806
noncomputable def impl_natDiv_L2.b {α : Type} (N n : Nat) (v802 : List Int) (v803 : Int) (v804 : List Int) (v805 : Int) (v806 : List Int) (k0 : Int → List Int → Int → List Int → Option α) : Option α :=
  Nat.rec (motive := fun _ => List Int → Int → List Int → Int → List Int → Option α) (fun _ _ _ _ _ => none) (fun _ next => impl_natDiv_L2r N next k0) n v802 v803 v804 v805 v806
theorem impl_natDiv_L2.ex : ∃ f : ((α : Type) → Nat → Nat → List Int → Int → List Int → Int → List Int → (Int → List Int → Int → List Int → Option α) → Option α), f = fun α => @impl_natDiv_L2.b α := ⟨_, rfl⟩
noncomputable def impl_natDiv_L2 {α : Type} : Nat → Nat → List Int → Int → List Int → Int → List Int → (Int → List Int → Int → List Int → Option α) → Option α := Classical.choose impl_natDiv_L2.ex α
theorem impl_natDiv_L2.eq : @impl_natDiv_L2 = @impl_natDiv_L2.b := funext fun α => congrFun (Classical.choose_spec impl_natDiv_L2.ex) α
theorem impl_natDiv_L2.zero {α : Type} (N : Nat) (v802 : List Int) (v803 : Int) (v804 : List Int) (v805 : Int) (v806 : List Int) (k0 : Int → List Int → Int → List Int → Option α) : impl_natDiv_L2 N 0 v802 v803 v804 v805 v806 k0 = none := by rw [impl_natDiv_L2.eq]; rfl
theorem impl_natDiv_L2.succ {α : Type} (N n : Nat) (v802 : List Int) (v803 : Int) (v804 : List Int) (v805 : Int) (v806 : List Int) (k0 : Int → List Int → Int → List Int → Option α) : impl_natDiv_L2 N (n + 1) v802 v803 v804 v805 v806 k0 = impl_natDiv_L2r N (fun y0 y1 y2 y3 y4 => impl_natDiv_L2 N n y0 y1 y2 y3 y4 k0) k0 v802 v803 v804 v805 v806 := by rw [impl_natDiv_L2.eq]; rfl
noncomputable def impl_natDiv_L6r {α : Type} (N : Nat) (next : Int → List Int → Int → Int → Int → Int → List Int → List Int → Option α) (k0 : Int → List Int → Int → Int → Int → List Int → List Int → Option α) (v843 : Int) (v844 : List Int) (v845 : Int) (v846 : Int) (v847 : Int) (v848 : Int) (v849 : List Int) (v850 : List Int) : Option α :=
  let x851 := (decide ((65536 : Int) ≤ v847))
  bif x851 then
    let x852 := (IntKind.i64.wrap (v847 - (1 : Int)))
    let x853 := (IntKind.i64.wrap (v845 - (1 : Int)))
    bif (decide (x853 < (0 : Int))) then
      none
    else
      match v844[x853.toNat]? with
      | some x854 =>
        let x855 := IntKind.i64.wrap (v848 + x854)
        let x856 := (decide ((65536 : Int) ≤ x855))
        bif x856 then
          k0 v843 v844 v845 v846 x852 v849 v850
        else
          next v843 v844 v845 v846 x852 x855 v849 v850
      | none => none
  else
    let x857 := (IntKind.i64.wrap (v845 - (2 : Int)))
    bif (decide (x857 < (0 : Int))) then
      none
    else
      match v844[x857.toNat]? with
      | some x858 =>
        let x859 := IntKind.i64.wrap (v847 * x858)
        let x860 := (shlI .i64 v848 (16 : Int))
        let x861 := IntKind.i64.wrap (v846 + v845)
        let x862 := (IntKind.i64.wrap (x861 - (2 : Int)))
        bif (decide (x862 < (0 : Int))) then
          none
        else
          bif decide (x862.toNat < v849.length) then
            match v849[x862.toNat]? with
            | some x863 =>
              let x864 := bitI .or .i64 x860 x863
              let x865 := decide (x864 < x859)
              bif x865 then
                let x866 := (IntKind.i64.wrap (v847 - (1 : Int)))
                let x867 := (IntKind.i64.wrap (v845 - (1 : Int)))
                bif (decide (x867 < (0 : Int))) then
                  none
                else
                  match v844[x867.toNat]? with
                  | some x868 =>
                    let x869 := IntKind.i64.wrap (v848 + x868)
                    let x870 := (decide ((65536 : Int) ≤ x869))
                    bif x870 then
                      k0 v843 v844 v845 v846 x866 v849 v850
                    else
                      next v843 v844 v845 v846 x866 x869 v849 v850
                  | none => none
              else
                k0 v843 v844 v845 v846 v847 v849 v850
            | none => none
          else
            none
      | none => none
noncomputable def impl_natDiv_L6.b {α : Type} (N n : Nat) (v843 : Int) (v844 : List Int) (v845 : Int) (v846 : Int) (v847 : Int) (v848 : Int) (v849 : List Int) (v850 : List Int) (k0 : Int → List Int → Int → Int → Int → List Int → List Int → Option α) : Option α :=
  Nat.rec (motive := fun _ => Int → List Int → Int → Int → Int → Int → List Int → List Int → Option α) (fun _ _ _ _ _ _ _ _ => none) (fun _ next => impl_natDiv_L6r N next k0) n v843 v844 v845 v846 v847 v848 v849 v850
theorem impl_natDiv_L6.ex : ∃ f : ((α : Type) → Nat → Nat → Int → List Int → Int → Int → Int → Int → List Int → List Int → (Int → List Int → Int → Int → Int → List Int → List Int → Option α) → Option α), f = fun α => @impl_natDiv_L6.b α := ⟨_, rfl⟩
noncomputable def impl_natDiv_L6 {α : Type} : Nat → Nat → Int → List Int → Int → Int → Int → Int → List Int → List Int → (Int → List Int → Int → Int → Int → List Int → List Int → Option α) → Option α := Classical.choose impl_natDiv_L6.ex α
theorem impl_natDiv_L6.eq : @impl_natDiv_L6 = @impl_natDiv_L6.b := funext fun α => congrFun (Classical.choose_spec impl_natDiv_L6.ex) α
theorem impl_natDiv_L6.zero {α : Type} (N : Nat) (v843 : Int) (v844 : List Int) (v845 : Int) (v846 : Int) (v847 : Int) (v848 : Int) (v849 : List Int) (v850 : List Int) (k0 : Int → List Int → Int → Int → Int → List Int → List Int → Option α) : impl_natDiv_L6 N 0 v843 v844 v845 v846 v847 v848 v849 v850 k0 = none := by rw [impl_natDiv_L6.eq]; rfl
theorem impl_natDiv_L6.succ {α : Type} (N n : Nat) (v843 : Int) (v844 : List Int) (v845 : Int) (v846 : Int) (v847 : Int) (v848 : Int) (v849 : List Int) (v850 : List Int) (k0 : Int → List Int → Int → Int → Int → List Int → List Int → Option α) : impl_natDiv_L6 N (n + 1) v843 v844 v845 v846 v847 v848 v849 v850 k0 = impl_natDiv_L6r N (fun y0 y1 y2 y3 y4 y5 y6 y7 => impl_natDiv_L6 N n y0 y1 y2 y3 y4 y5 y6 y7 k0) k0 v843 v844 v845 v846 v847 v848 v849 v850 := by rw [impl_natDiv_L6.eq]; rfl
noncomputable def impl_natDiv_J34.b {α : Type} (N : Nat) (v897 : Int) (v898 : List Int) (v899 : Int) (v900 : Int) (v901 : Int) (v902 : Int) (v903 : Int) (v904 : Int) (v905 : List Int) (v906 : Int) (v907 : Int) (v908 : List Int) (v909 : List Int) (k0 : Int → List Int → Int → Int → Int → Int → Int → Int → List Int → Int → Int → List Int → List Int → Option α) : Option α :=
  let x910 := (decide (v904 < (0 : Int)))
  bif x910 then
    let x911 := IntKind.i64.wrap (0 - v904)
    let x912 := (IntKind.i64.wrap (x911 + (65536 : Int)))
    let x913 := (IntKind.i64.wrap (x912 - (1 : Int)))
    let x914 := (IntKind.i64.wrap (Int.tdiv x913 (65536 : Int)))
    let x915 := (IntKind.i64.wrap (x914 * (65536 : Int)))
    let x916 := IntKind.i64.wrap (v904 + x915)
    k0 v897 v898 v899 v900 v901 x914 v903 x916 v905 v906 v907 v908 v909
  else
    k0 v897 v898 v899 v900 v901 v902 v903 v904 v905 v906 v907 v908 v909
theorem impl_natDiv_J34.ex : ∃ f : ((α : Type) → Nat → Int → List Int → Int → Int → Int → Int → Int → Int → List Int → Int → Int → List Int → List Int → (Int → List Int → Int → Int → Int → Int → Int → Int → List Int → Int → Int → List Int → List Int → Option α) → Option α), f = fun α => @impl_natDiv_J34.b α := ⟨_, rfl⟩
noncomputable def impl_natDiv_J34 {α : Type} : Nat → Int → List Int → Int → Int → Int → Int → Int → Int → List Int → Int → Int → List Int → List Int → (Int → List Int → Int → Int → Int → Int → Int → Int → List Int → Int → Int → List Int → List Int → Option α) → Option α := Classical.choose impl_natDiv_J34.ex α
theorem impl_natDiv_J34.eq : @impl_natDiv_J34 = @impl_natDiv_J34.b := funext fun α => congrFun (Classical.choose_spec impl_natDiv_J34.ex) α
noncomputable def impl_natDiv_L8r {α : Type} (N : Nat) (next : Int → List Int → Int → Int → Int → Int → List Int → Int → Int → List Int → List Int → Option α) (k0 : Int → List Int → Int → Int → Int → Int → List Int → List Int → Option α) (v879 : Int) (v880 : List Int) (v881 : Int) (v882 : Int) (v883 : Int) (v884 : Int) (v885 : List Int) (v886 : Int) (v887 : Int) (v888 : List Int) (v889 : List Int) : Option α :=
  let x890 := decide (v887 < v886)
  bif x890 then
    bif (decide (v887 < (0 : Int))) then
      none
    else
      match v885[v887.toNat]? with
      | some x891 =>
        let x892 := IntKind.i64.wrap (v882 + v887)
        bif (decide (x892 < (0 : Int))) then
          none
        else
          bif decide (x892.toNat < v888.length) then
            match v888[x892.toNat]? with
            | some x893 =>
              let x894 := IntKind.i64.wrap (x893 - v884)
              let x895 := IntKind.i64.wrap (v883 * x891)
              let x896 := IntKind.i64.wrap (x894 - x895)
              impl_natDiv_J34 N v879 v880 v881 v882 v883 (0 : Int) v887 x896 v885 v886 v887 v888 v889
                (fun x917 x918 x919 x920 x921 x922 x923 x924 x925 x926 x927 x928 x929 =>
                  let x930 := IntKind.i64.wrap (x920 + x923)
                  bif (decide (x930 < (0 : Int))) then
                    none
                  else
                    bif decide (x930.toNat < x928.length) then
                      match x928[x930.toNat]? with
                      | some x931 =>
                        let x932 := x928.set x930.toNat x924
                        let x933 := (IntKind.i64.wrap (x927 + (1 : Int)))
                        next x917 x918 x919 x920 x921 x922 x925 x926 x933 x932 x929
                      | none => none
                    else
                      none)
            | none => none
          else
            none
      | none => none
  else
    k0 v879 v880 v881 v882 v883 v884 v888 v889
noncomputable def impl_natDiv_L8.b {α : Type} (N n : Nat) (v879 : Int) (v880 : List Int) (v881 : Int) (v882 : Int) (v883 : Int) (v884 : Int) (v885 : List Int) (v886 : Int) (v887 : Int) (v888 : List Int) (v889 : List Int) (k0 : Int → List Int → Int → Int → Int → Int → List Int → List Int → Option α) : Option α :=
  Nat.rec (motive := fun _ => Int → List Int → Int → Int → Int → Int → List Int → Int → Int → List Int → List Int → Option α) (fun _ _ _ _ _ _ _ _ _ _ _ => none) (fun _ next => impl_natDiv_L8r N next k0) n v879 v880 v881 v882 v883 v884 v885 v886 v887 v888 v889
theorem impl_natDiv_L8.ex : ∃ f : ((α : Type) → Nat → Nat → Int → List Int → Int → Int → Int → Int → List Int → Int → Int → List Int → List Int → (Int → List Int → Int → Int → Int → Int → List Int → List Int → Option α) → Option α), f = fun α => @impl_natDiv_L8.b α := ⟨_, rfl⟩
noncomputable def impl_natDiv_L8 {α : Type} : Nat → Nat → Int → List Int → Int → Int → Int → Int → List Int → Int → Int → List Int → List Int → (Int → List Int → Int → Int → Int → Int → List Int → List Int → Option α) → Option α := Classical.choose impl_natDiv_L8.ex α
theorem impl_natDiv_L8.eq : @impl_natDiv_L8 = @impl_natDiv_L8.b := funext fun α => congrFun (Classical.choose_spec impl_natDiv_L8.ex) α
theorem impl_natDiv_L8.zero {α : Type} (N : Nat) (v879 : Int) (v880 : List Int) (v881 : Int) (v882 : Int) (v883 : Int) (v884 : Int) (v885 : List Int) (v886 : Int) (v887 : Int) (v888 : List Int) (v889 : List Int) (k0 : Int → List Int → Int → Int → Int → Int → List Int → List Int → Option α) : impl_natDiv_L8 N 0 v879 v880 v881 v882 v883 v884 v885 v886 v887 v888 v889 k0 = none := by rw [impl_natDiv_L8.eq]; rfl
theorem impl_natDiv_L8.succ {α : Type} (N n : Nat) (v879 : Int) (v880 : List Int) (v881 : Int) (v882 : Int) (v883 : Int) (v884 : Int) (v885 : List Int) (v886 : Int) (v887 : Int) (v888 : List Int) (v889 : List Int) (k0 : Int → List Int → Int → Int → Int → Int → List Int → List Int → Option α) : impl_natDiv_L8 N (n + 1) v879 v880 v881 v882 v883 v884 v885 v886 v887 v888 v889 k0 = impl_natDiv_L8r N (fun y0 y1 y2 y3 y4 y5 y6 y7 y8 y9 y10 => impl_natDiv_L8 N n y0 y1 y2 y3 y4 y5 y6 y7 y8 y9 y10 k0) k0 v879 v880 v881 v882 v883 v884 v885 v886 v887 v888 v889 := by rw [impl_natDiv_L8.eq]; rfl
noncomputable def impl_natDiv_L10r {α : Type} (N : Nat) (next : Int → List Int → Int → Int → Int → Int → List Int → Int → Int → List Int → List Int → Option α) (k0 : Int → List Int → Int → Int → Int → Int → List Int → List Int → Option α) (v959 : Int) (v960 : List Int) (v961 : Int) (v962 : Int) (v963 : Int) (v964 : Int) (v965 : List Int) (v966 : Int) (v967 : Int) (v968 : List Int) (v969 : List Int) : Option α :=
  let x970 := decide (v967 < v966)
  bif x970 then
    bif (decide (v967 < (0 : Int))) then
      none
    else
      match v965[v967.toNat]? with
      | some x971 =>
        let x972 := IntKind.i64.wrap (v962 + v967)
        bif (decide (x972 < (0 : Int))) then
          none
        else
          bif decide (x972.toNat < v968.length) then
            match v968[x972.toNat]? with
            | some x973 =>
              let x974 := IntKind.i64.wrap (x973 + x971)
              let x975 := IntKind.i64.wrap (x974 + v964)
              let x976 := IntKind.i64.wrap (v962 + v967)
              let x977 := (bitI .and .i64 x975 (65535 : Int))
              let x978 := (shrI .i64 x975 (16 : Int))
              bif (decide (x976 < (0 : Int))) then
                none
              else
                bif decide (x976.toNat < v968.length) then
                  match v968[x976.toNat]? with
                  | some x979 =>
                    let x980 := v968.set x976.toNat x977
                    let x981 := (IntKind.i64.wrap (v967 + (1 : Int)))
                    next v959 v960 v961 v962 v963 x978 v965 v966 x981 x980 v969
                  | none => none
                else
                  none
            | none => none
          else
            none
      | none => none
  else
    k0 v959 v960 v961 v962 v963 v964 v968 v969
noncomputable def impl_natDiv_L10.b {α : Type} (N n : Nat) (v959 : Int) (v960 : List Int) (v961 : Int) (v962 : Int) (v963 : Int) (v964 : Int) (v965 : List Int) (v966 : Int) (v967 : Int) (v968 : List Int) (v969 : List Int) (k0 : Int → List Int → Int → Int → Int → Int → List Int → List Int → Option α) : Option α :=
  Nat.rec (motive := fun _ => Int → List Int → Int → Int → Int → Int → List Int → Int → Int → List Int → List Int → Option α) (fun _ _ _ _ _ _ _ _ _ _ _ => none) (fun _ next => impl_natDiv_L10r N next k0) n v959 v960 v961 v962 v963 v964 v965 v966 v967 v968 v969
theorem impl_natDiv_L10.ex : ∃ f : ((α : Type) → Nat → Nat → Int → List Int → Int → Int → Int → Int → List Int → Int → Int → List Int → List Int → (Int → List Int → Int → Int → Int → Int → List Int → List Int → Option α) → Option α), f = fun α => @impl_natDiv_L10.b α := ⟨_, rfl⟩
noncomputable def impl_natDiv_L10 {α : Type} : Nat → Nat → Int → List Int → Int → Int → Int → Int → List Int → Int → Int → List Int → List Int → (Int → List Int → Int → Int → Int → Int → List Int → List Int → Option α) → Option α := Classical.choose impl_natDiv_L10.ex α
theorem impl_natDiv_L10.eq : @impl_natDiv_L10 = @impl_natDiv_L10.b := funext fun α => congrFun (Classical.choose_spec impl_natDiv_L10.ex) α
theorem impl_natDiv_L10.zero {α : Type} (N : Nat) (v959 : Int) (v960 : List Int) (v961 : Int) (v962 : Int) (v963 : Int) (v964 : Int) (v965 : List Int) (v966 : Int) (v967 : Int) (v968 : List Int) (v969 : List Int) (k0 : Int → List Int → Int → Int → Int → Int → List Int → List Int → Option α) : impl_natDiv_L10 N 0 v959 v960 v961 v962 v963 v964 v965 v966 v967 v968 v969 k0 = none := by rw [impl_natDiv_L10.eq]; rfl
theorem impl_natDiv_L10.succ {α : Type} (N n : Nat) (v959 : Int) (v960 : List Int) (v961 : Int) (v962 : Int) (v963 : Int) (v964 : Int) (v965 : List Int) (v966 : Int) (v967 : Int) (v968 : List Int) (v969 : List Int) (k0 : Int → List Int → Int → Int → Int → Int → List Int → List Int → Option α) : impl_natDiv_L10 N (n + 1) v959 v960 v961 v962 v963 v964 v965 v966 v967 v968 v969 k0 = impl_natDiv_L10r N (fun y0 y1 y2 y3 y4 y5 y6 y7 y8 y9 y10 => impl_natDiv_L10 N n y0 y1 y2 y3 y4 y5 y6 y7 y8 y9 y10 k0) k0 v959 v960 v961 v962 v963 v964 v965 v966 v967 v968 v969 := by rw [impl_natDiv_L10.eq]; rfl
noncomputable def impl_natDiv_J40.b {α : Type} (N : Nat) (v947 : Int) (v948 : List Int) (v949 : Int) (v950 : Int) (v951 : Int) (v952 : List Int) (v953 : List Int) (k0 : Int → List Int → Int → Int → Int → List Int → List Int → Option α) : Option α :=
  let x954 := IntKind.i64.wrap (v950 + v949)
  bif (decide (x954 < (0 : Int))) then
    none
  else
    bif decide (x954.toNat < v952.length) then
      match v952[x954.toNat]? with
      | some x955 =>
        let x956 := (decide (x955 < (0 : Int)))
        bif x956 then
          let x957 := (IntKind.i64.wrap (v951 - (1 : Int)))
          let x958 := ((v948.length : Nat) : Int)
          impl_natDiv_L10 N N v947 v948 v949 v950 x957 (0 : Int) v948 x958 (0 : Int) v952 v953
            (fun x982 x983 x984 x985 x986 x987 x988 x989 =>
              let x990 := IntKind.i64.wrap (x985 + x984)
              bif (decide (x990 < (0 : Int))) then
                none
              else
                bif decide (x990.toNat < x988.length) then
                  match x988[x990.toNat]? with
                  | some x991 =>
                    let x992 := IntKind.i64.wrap (x991 + x987)
                    bif (decide (x990 < (0 : Int))) then
                      none
                    else
                      bif decide (x990.toNat < x988.length) then
                        match x988[x990.toNat]? with
                        | some x993 =>
                          let x994 := x988.set x990.toNat x992
                          k0 x982 x983 x984 x985 x986 x994 x989
                        | none => none
                      else
                        none
                  | none => none
                else
                  none)
        else
          k0 v947 v948 v949 v950 v951 v952 v953
      | none => none
    else
      none
theorem impl_natDiv_J40.ex : ∃ f : ((α : Type) → Nat → Int → List Int → Int → Int → Int → List Int → List Int → (Int → List Int → Int → Int → Int → List Int → List Int → Option α) → Option α), f = fun α => @impl_natDiv_J40.b α := ⟨_, rfl⟩
noncomputable def impl_natDiv_J40 {α : Type} : Nat → Int → List Int → Int → Int → Int → List Int → List Int → (Int → List Int → Int → Int → Int → List Int → List Int → Option α) → Option α := Classical.choose impl_natDiv_J40.ex α
theorem impl_natDiv_J40.eq : @impl_natDiv_J40 = @impl_natDiv_J40.b := funext fun α => congrFun (Classical.choose_spec impl_natDiv_J40.ex) α
noncomputable def impl_natDiv_L4r {α : Type} (N : Nat) (next : Int → List Int → Int → Int → List Int → List Int → Option α) (k0 : Int → List Int → List Int → Option α) (v823 : Int) (v824 : List Int) (v825 : Int) (v826 : Int) (v827 : List Int) (v828 : List Int) : Option α :=
  let x829 := (decide ((0 : Int) ≤ v826))
  bif x829 then
    let x830 := IntKind.i64.wrap (v826 + v825)
    bif (decide (x830 < (0 : Int))) then
      none
    else
      bif decide (x830.toNat < v827.length) then
        match v827[x830.toNat]? with
        | some x831 =>
          let x832 := (shlI .i64 x831 (16 : Int))
          let x833 := IntKind.i64.wrap (v826 + v825)
          let x834 := (IntKind.i64.wrap (x833 - (1 : Int)))
          bif (decide (x834 < (0 : Int))) then
            none
          else
            bif decide (x834.toNat < v827.length) then
              match v827[x834.toNat]? with
              | some x835 =>
                let x836 := bitI .or .i64 x832 x835
                let x837 := (IntKind.i64.wrap (v825 - (1 : Int)))
                bif (decide (x837 < (0 : Int))) then
                  none
                else
                  match v824[x837.toNat]? with
                  | some x838 =>
                    bif (decide (x838 = (0 : Int))) then
                      none
                    else
                      let x839 := IntKind.i64.wrap (Int.tdiv x836 x838)
                      let x840 := (IntKind.i64.wrap (v825 - (1 : Int)))
                      bif (decide (x840 < (0 : Int))) then
                        none
                      else
                        match v824[x840.toNat]? with
                        | some x841 =>
                          bif (decide (x841 = (0 : Int))) then
                            none
                          else
                            let x842 := Int.tmod x836 x841
                            impl_natDiv_L6 N N v823 v824 v825 v826 x839 x842 v827 v828
                              (fun x871 x872 x873 x874 x875 x876 x877 =>
                                let x878 := ((x872.length : Nat) : Int)
                                impl_natDiv_L8 N N x871 x872 x873 x874 x875 (0 : Int) x872 x878 (0 : Int) x876 x877
                                  (fun x934 x935 x936 x937 x938 x939 x940 x941 =>
                                    let x942 := IntKind.i64.wrap (x937 + x936)
                                    bif (decide (x942 < (0 : Int))) then
                                      none
                                    else
                                      bif decide (x942.toNat < x940.length) then
                                        match x940[x942.toNat]? with
                                        | some x943 =>
                                          let x944 := IntKind.i64.wrap (x943 - x939)
                                          bif (decide (x942 < (0 : Int))) then
                                            none
                                          else
                                            bif decide (x942.toNat < x940.length) then
                                              match x940[x942.toNat]? with
                                              | some x945 =>
                                                let x946 := x940.set x942.toNat x944
                                                impl_natDiv_J40 N x934 x935 x936 x937 x938 x946 x941
                                                  (fun x995 x996 x997 x998 x999 x1000 x1001 =>
                                                    bif (decide (x998 < (0 : Int))) then
                                                      none
                                                    else
                                                      bif decide (x998.toNat < x1001.length) then
                                                        match x1001[x998.toNat]? with
                                                        | some x1002 =>
                                                          let x1003 := x1001.set x998.toNat x999
                                                          let x1004 := (IntKind.i64.wrap (x998 - (1 : Int)))
                                                          next x995 x996 x997 x1004 x1000 x1003
                                                        | none => none
                                                      else
                                                        none)
                                              | none => none
                                            else
                                              none
                                        | none => none
                                      else
                                        none))
                        | none => none
                  | none => none
              | none => none
            else
              none
        | none => none
      else
        none
  else
    k0 v823 v827 v828
noncomputable def impl_natDiv_L4.b {α : Type} (N n : Nat) (v823 : Int) (v824 : List Int) (v825 : Int) (v826 : Int) (v827 : List Int) (v828 : List Int) (k0 : Int → List Int → List Int → Option α) : Option α :=
  Nat.rec (motive := fun _ => Int → List Int → Int → Int → List Int → List Int → Option α) (fun _ _ _ _ _ _ => none) (fun _ next => impl_natDiv_L4r N next k0) n v823 v824 v825 v826 v827 v828
theorem impl_natDiv_L4.ex : ∃ f : ((α : Type) → Nat → Nat → Int → List Int → Int → Int → List Int → List Int → (Int → List Int → List Int → Option α) → Option α), f = fun α => @impl_natDiv_L4.b α := ⟨_, rfl⟩
noncomputable def impl_natDiv_L4 {α : Type} : Nat → Nat → Int → List Int → Int → Int → List Int → List Int → (Int → List Int → List Int → Option α) → Option α := Classical.choose impl_natDiv_L4.ex α
theorem impl_natDiv_L4.eq : @impl_natDiv_L4 = @impl_natDiv_L4.b := funext fun α => congrFun (Classical.choose_spec impl_natDiv_L4.ex) α
theorem impl_natDiv_L4.zero {α : Type} (N : Nat) (v823 : Int) (v824 : List Int) (v825 : Int) (v826 : Int) (v827 : List Int) (v828 : List Int) (k0 : Int → List Int → List Int → Option α) : impl_natDiv_L4 N 0 v823 v824 v825 v826 v827 v828 k0 = none := by rw [impl_natDiv_L4.eq]; rfl
theorem impl_natDiv_L4.succ {α : Type} (N n : Nat) (v823 : Int) (v824 : List Int) (v825 : Int) (v826 : Int) (v827 : List Int) (v828 : List Int) (k0 : Int → List Int → List Int → Option α) : impl_natDiv_L4 N (n + 1) v823 v824 v825 v826 v827 v828 k0 = impl_natDiv_L4r N (fun y0 y1 y2 y3 y4 y5 => impl_natDiv_L4 N n y0 y1 y2 y3 y4 y5 k0) k0 v823 v824 v825 v826 v827 v828 := by rw [impl_natDiv_L4.eq]; rfl
/-- loop.example/pinfold/impl.natDiv -/
noncomputable def impl_natDiv.b {α : Type} (N : Nat) (a556 : List Int) (a557 : List Int) (k0 : List Int → List Int → Option α) : Option α :=
  impl_natCmp N a556 a557
    (fun x584 =>
      let x585 := (decide (x584 < (0 : Int)))
      bif x585 then
        k0 [] a556
      else
        let x586 := ((a557.length : Nat) : Int)
        let x587 := (decide (x586 = (1 : Int)))
        bif x587 then
          let x588 := ((a556.length : Nat) : Int)
          bif (decide ((0 : Int) ≤ x588)) then
            bif decide (x588 ≤ x588) then
              bif (decide (x588 ≤ ((8796093022208 : Nat) : Int))) then
                let x589 := (List.replicate x588.toNat (0 : Int))
                let x590 := ((a556.length : Nat) : Int)
                let x591 := (IntKind.i64.wrap (x590 - (1 : Int)))
                impl_natDiv_L0 N N a556 a557 (0 : Int) x591 x589
                  (fun x608 x609 =>
                    impl_trim N x609
                      (fun x622 =>
                        let x623 := [x608]
                        impl_trim N x623
                          (fun x624 =>
                            k0 x622 x624)))
              else
                none
            else
              none
          else
            none
        else
          let x625 := ((a557.length : Nat) : Int)
          let x626 := (IntKind.i64.wrap (x625 - (1 : Int)))
          bif (decide (x626 < (0 : Int))) then
            none
          else
            match a557[x626.toNat]? with
            | some x627 =>
              let x628 := IntKind.u64.wrap x627
              math_bits_Len N x628
                (fun x657 =>
                  let x658 := (IntKind.i64.wrap ((16 : Int) - x657))
                  impl_natShift N a557 x658
                    (fun x796 =>
                      impl_natShift N a556 x658
                        (fun x797 =>
                          slices_Clone_int_int N x797
                            (fun x798 =>
                              let x799 := [(0 : Int)]
                              bif decide (x798.length + x799.length ≤ 8796093022208) then
                                let x800 := x798 ++ x799
                                let x801 := ((x796.length : Nat) : Int)
                                impl_natDiv_L2 N N a556 x658 x796 x801 x800
                                  (fun x813 x814 x815 x816 =>
                                    let x817 := ((x816.length : Nat) : Int)
                                    let x818 := IntKind.i64.wrap (x817 - x815)
                                    bif (decide ((0 : Int) ≤ x818)) then
                                      bif decide (x818 ≤ x818) then
                                        bif (decide (x818 ≤ ((8796093022208 : Nat) : Int))) then
                                          let x819 := (List.replicate x818.toNat (0 : Int))
                                          let x820 := ((x816.length : Nat) : Int)
                                          let x821 := IntKind.i64.wrap (x820 - x815)
                                          let x822 := (IntKind.i64.wrap (x821 - (1 : Int)))
                                          impl_natDiv_L4 N N x813 x814 x815 x822 x816 x819
                                            (fun x1005 x1006 x1007 =>
                                              impl_trim N x1007
                                                (fun x1008 =>
                                                  impl_trim N x1006
                                                    (fun x1009 =>
                                                      let x1010 := IntKind.i64.wrap (0 - x1005)
                                                      impl_natShift N x1009 x1010
                                                        (fun x1011 =>
                                                          k0 x1008 x1011))))
                                        else
                                          none
                                      else
                                        none
                                    else
                                      none)
                              else
                                none))))
            | none => none)
theorem impl_natDiv.ex : ∃ f : ((α : Type) → Nat → List Int → List Int → (List Int → List Int → Option α) → Option α), f = fun α => @impl_natDiv.b α := ⟨_, rfl⟩
noncomputable def impl_natDiv {α : Type} : Nat → List Int → List Int → (List Int → List Int → Option α) → Option α := Classical.choose impl_natDiv.ex α
theorem impl_natDiv.eq : @impl_natDiv = @impl_natDiv.b := funext fun α => congrFun (Classical.choose_spec impl_natDiv.ex) α

noncomputable def impl_natGcd_L0r {α : Type} (N : Nat) (next : List Int → List Int → Option α) (k0 : List Int → Option α) (v483 : List Int) (v484 : List Int) : Option α :=
  let x485 := ((v484.length : Nat) : Int)
  let x486 := (decide ((0 : Int) < x485))
  bif x486 then
    impl_natDiv N v483 v484
      (fun _ x1013 =>
        next v484 x1013)
  else
    k0 v483
noncomputable def impl_natGcd_L0.b {α : Type} (N n : Nat) (v483 : List Int) (v484 : List Int) (k0 : List Int → Option α) : Option α :=
  Nat.rec (motive := fun _ => List Int → List Int → Option α) (fun _ _ => none) (fun _ next => impl_natGcd_L0r N next k0) n v483 v484
theorem impl_natGcd_L0.ex : ∃ f : ((α : Type) → Nat → Nat → List Int → List Int → (List Int → Option α) → Option α), f = fun α => @impl_natGcd_L0.b α := ⟨_, rfl⟩
noncomputable def impl_natGcd_L0 {α : Type} : Nat → Nat → List Int → List Int → (List Int → Option α) → Option α := Classical.choose impl_natGcd_L0.ex α
theorem impl_natGcd_L0.eq : @impl_natGcd_L0 = @impl_natGcd_L0.b := funext fun α => congrFun (Classical.choose_spec impl_natGcd_L0.ex) α
theorem impl_natGcd_L0.zero {α : Type} (N : Nat) (v483 : List Int) (v484 : List Int) (k0 : List Int → Option α) : impl_natGcd_L0 N 0 v483 v484 k0 = none := by rw [impl_natGcd_L0.eq]; rfl
theorem impl_natGcd_L0.succ {α : Type} (N n : Nat) (v483 : List Int) (v484 : List Int) (k0 : List Int → Option α) : impl_natGcd_L0 N (n + 1) v483 v484 k0 = impl_natGcd_L0r N (fun y0 y1 => impl_natGcd_L0 N n y0 y1 k0) k0 v483 v484 := by rw [impl_natGcd_L0.eq]; rfl
/-- loop.example/pinfold/impl.natGcd -/
noncomputable def impl_natGcd.b {α : Type} (N : Nat) (a481 : List Int) (a482 : List Int) (k0 : List Int → Option α) : Option α :=
  impl_natGcd_L0 N N a481 a482
    (fun x1014 =>
      k0 x1014)
theorem impl_natGcd.ex : ∃ f : ((α : Type) → Nat → List Int → List Int → (List Int → Option α) → Option α), f = fun α => @impl_natGcd.b α := ⟨_, rfl⟩
noncomputable def impl_natGcd {α : Type} : Nat → List Int → List Int → (List Int → Option α) → Option α := Classical.choose impl_natGcd.ex α
theorem impl_natGcd.eq : @impl_natGcd = @impl_natGcd.b := funext fun α => congrFun (Classical.choose_spec impl_natGcd.ex) α

/-- loop.example/pinfold/impl.FracOk -/
noncomputable def impl_FracOk.b {α : Type} (N : Nat) (a421 : Bool × (List Int) × (List Int) × Unit) (k0 : Bool → Option α) : Option α :=
  let x422 := [a421.2.1, a421.2.2.1]
  impl_nats N x422
    (fun x476 =>
      bif x476 then
        let x477 := ((a421.2.2.1.length : Nat) : Int)
        let x478 := (decide ((0 : Int) < x477))
        bif x478 then
          let x479 := ((a421.2.1.length : Nat) : Int)
          let x480 := (decide ((0 : Int) < x479))
          bif x480 then
            impl_natGcd N a421.2.1 a421.2.2.1
              (fun x1015 =>
                let x1016 := [(1 : Int)]
                impl_natCmp N x1015 x1016
                  (fun x1017 =>
                    let x1018 := (decide (x1017 = (0 : Int)))
                    k0 x1018))
          else
            let x1019 := !a421.1
            bif x1019 then
              impl_natGcd N a421.2.1 a421.2.2.1
                (fun x1020 =>
                  let x1021 := [(1 : Int)]
                  impl_natCmp N x1020 x1021
                    (fun x1022 =>
                      let x1023 := (decide (x1022 = (0 : Int)))
                      k0 x1023))
            else
              k0 false
        else
          k0 false
      else
        k0 false)
theorem impl_FracOk.ex : ∃ f : ((α : Type) → Nat → (Bool × (List Int) × (List Int) × Unit) → (Bool → Option α) → Option α), f = fun α => @impl_FracOk.b α := ⟨_, rfl⟩
noncomputable def impl_FracOk {α : Type} : Nat → (Bool × (List Int) × (List Int) × Unit) → (Bool → Option α) → Option α := Classical.choose impl_FracOk.ex α
theorem impl_FracOk.eq : @impl_FracOk = @impl_FracOk.b := funext fun α => congrFun (Classical.choose_spec impl_FracOk.ex) α

/-- (loop.example/pinfold/impl.Frac).sign -/
noncomputable def impl_Frac_sign.b {α : Type} (N : Nat) (a1026 : Bool × (List Int) × (List Int) × Unit) (k0 : Int → Option α) : Option α :=
  bif a1026.1 then
    k0 (-1 : Int)
  else
    let x1027 := ((a1026.2.1.length : Nat) : Int)
    let x1028 := (decide (x1027 = (0 : Int)))
    bif x1028 then
      k0 (0 : Int)
    else
      k0 (1 : Int)
theorem impl_Frac_sign.ex : ∃ f : ((α : Type) → Nat → (Bool × (List Int) × (List Int) × Unit) → (Int → Option α) → Option α), f = fun α => @impl_Frac_sign.b α := ⟨_, rfl⟩
noncomputable def impl_Frac_sign {α : Type} : Nat → (Bool × (List Int) × (List Int) × Unit) → (Int → Option α) → Option α := Classical.choose impl_Frac_sign.ex α
theorem impl_Frac_sign.eq : @impl_Frac_sign = @impl_Frac_sign.b := funext fun α => congrFun (Classical.choose_spec impl_Frac_sign.ex) α

/-- loop.example/pinfold/impl.FracSign -/
noncomputable def impl_FracSign.b {α : Type} (N : Nat) (a420 : Bool × (List Int) × (List Int) × Unit) (k0 : Int → Option α) : Option α :=
  impl_FracOk N a420
    (fun x1024 =>
      let x1025 := !x1024
      bif x1025 then
        k0 (0 : Int)
      else
        impl_Frac_sign N a420
          (fun x1029 =>
            k0 x1029))
theorem impl_FracSign.ex : ∃ f : ((α : Type) → Nat → (Bool × (List Int) × (List Int) × Unit) → (Int → Option α) → Option α), f = fun α => @impl_FracSign.b α := ⟨_, rfl⟩
noncomputable def impl_FracSign {α : Type} : Nat → (Bool × (List Int) × (List Int) × Unit) → (Int → Option α) → Option α := Classical.choose impl_FracSign.ex α
theorem impl_FracSign.eq : @impl_FracSign = @impl_FracSign.b := funext fun α => congrFun (Classical.choose_spec impl_FracSign.ex) α

noncomputable def laws_eqIntS_L0r {α : Type} (N : Nat) (next : List Int → List Int → Int → Option α) (k0 : Bool → Option α) (k1 : Option α) (v1043 : List Int) (v1044 : List Int) (v1045 : Int) : Option α :=
  let x1046 := ((v1043.length : Nat) : Int)
  let x1047 := decide (v1045 < x1046)
  bif x1047 then
    bif (decide (v1045 < (0 : Int))) then
      none
    else
      match v1043[v1045.toNat]? with
      | some x1048 =>
        bif (decide (v1045 < (0 : Int))) then
          none
        else
          match v1044[v1045.toNat]? with
          | some x1049 =>
            let x1050 := !(decide (x1048 = x1049))
            bif x1050 then
              k0 false
            else
              let x1051 := (IntKind.i64.wrap (v1045 + (1 : Int)))
              next v1043 v1044 x1051
          | none => none
      | none => none
  else
    k1
noncomputable def laws_eqIntS_L0.b {α : Type} (N n : Nat) (v1043 : List Int) (v1044 : List Int) (v1045 : Int) (k0 : Bool → Option α) (k1 : Option α) : Option α :=
  Nat.rec (motive := fun _ => List Int → List Int → Int → Option α) (fun _ _ _ => none) (fun _ next => laws_eqIntS_L0r N next k0 k1) n v1043 v1044 v1045
theorem laws_eqIntS_L0.ex : ∃ f : ((α : Type) → Nat → Nat → List Int → List Int → Int → (Bool → Option α) → (Option α) → Option α), f = fun α => @laws_eqIntS_L0.b α := ⟨_, rfl⟩
noncomputable def laws_eqIntS_L0 {α : Type} : Nat → Nat → List Int → List Int → Int → (Bool → Option α) → (Option α) → Option α := Classical.choose laws_eqIntS_L0.ex α
theorem laws_eqIntS_L0.eq : @laws_eqIntS_L0 = @laws_eqIntS_L0.b := funext fun α => congrFun (Classical.choose_spec laws_eqIntS_L0.ex) α
theorem laws_eqIntS_L0.zero {α : Type} (N : Nat) (v1043 : List Int) (v1044 : List Int) (v1045 : Int) (k0 : Bool → Option α) (k1 : Option α) : laws_eqIntS_L0 N 0 v1043 v1044 v1045 k0 k1 = none := by rw [laws_eqIntS_L0.eq]; rfl
theorem laws_eqIntS_L0.succ {α : Type} (N n : Nat) (v1043 : List Int) (v1044 : List Int) (v1045 : Int) (k0 : Bool → Option α) (k1 : Option α) : laws_eqIntS_L0 N (n + 1) v1043 v1044 v1045 k0 k1 = laws_eqIntS_L0r N (fun y0 y1 y2 => laws_eqIntS_L0 N n y0 y1 y2 k0 k1) k0 k1 v1043 v1044 v1045 := by rw [laws_eqIntS_L0.eq]; rfl
/-- loop.example/pinfold/laws.eqIntS -/
noncomputable def laws_eqIntS.b {α : Type} (N : Nat) (a1038 : List Int) (a1039 : List Int) (k0 : Bool → Option α) : Option α :=
  let x1040 := ((a1038.length : Nat) : Int)
  let x1041 := ((a1039.length : Nat) : Int)
  let x1042 := !(decide (x1040 = x1041))
  bif x1042 then
    k0 false
  else
    laws_eqIntS_L0 N N a1038 a1039 (0 : Int)
      (fun x1052 =>
        k0 x1052)
      (
        k0 true)
theorem laws_eqIntS.ex : ∃ f : ((α : Type) → Nat → List Int → List Int → (Bool → Option α) → Option α), f = fun α => @laws_eqIntS.b α := ⟨_, rfl⟩
noncomputable def laws_eqIntS {α : Type} : Nat → List Int → List Int → (Bool → Option α) → Option α := Classical.choose laws_eqIntS.ex α
theorem laws_eqIntS.eq : @laws_eqIntS = @laws_eqIntS.b := funext fun α => congrFun (Classical.choose_spec laws_eqIntS.ex) α

/-- loop.example/pinfold/laws.eqFrac -/
noncomputable def laws_eqFrac.b {α : Type} (N : Nat) (a1035 : Bool × (List Int) × (List Int) × Unit) (a1036 : Bool × (List Int) × (List Int) × Unit) (k0 : Bool → Option α) : Option α :=
  let x1037 := !(a1035.1 == a1036.1)
  bif x1037 then
    k0 false
  else
    laws_eqIntS N a1035.2.1 a1036.2.1
      (fun x1053 =>
        let x1054 := !x1053
        bif x1054 then
          k0 false
        else
          laws_eqIntS N a1035.2.2.1 a1036.2.2.1
            (fun x1055 =>
              let x1056 := !x1055
              bif x1056 then
                k0 false
              else
                k0 true))
theorem laws_eqFrac.ex : ∃ f : ((α : Type) → Nat → (Bool × (List Int) × (List Int) × Unit) → (Bool × (List Int) × (List Int) × Unit) → (Bool → Option α) → Option α), f = fun α => @laws_eqFrac.b α := ⟨_, rfl⟩
noncomputable def laws_eqFrac {α : Type} : Nat → (Bool × (List Int) × (List Int) × Unit) → (Bool × (List Int) × (List Int) × Unit) → (Bool → Option α) → Option α := Classical.choose laws_eqFrac.ex α
theorem laws_eqFrac.eq : @laws_eqFrac = @laws_eqFrac.b := funext fun α => congrFun (Classical.choose_spec laws_eqFrac.ex) α

/-- loop.example/pinfold/laws.FnExactFracSign -/
noncomputable def laws_FnExactFracSign.b {α : Type} (N : Nat) (a1 : Bool × (List Int) × (List Int) × Unit) (k0 : Bool → Option α) : Option α :=
  laws_szFrac N a1 (1048576 : Int)
    (fun x13 =>
      let x14 := (decide (x13 < (0 : Int)))
      bif x14 then
        k0 true
      else
        laws_toFrac N a1
          (fun x31 x32 x33 =>
            spec_FracSign N (x31, (x32, (x33, ())))
              (fun x416 =>
                laws_toFrac N a1
                  (fun x417 x418 x419 =>
                    impl_FracSign N (x417, (x418, (x419, ())))
                      (fun x1030 =>
                        let x1031 := !(decide (x1030 = x416))
                        bif x1031 then
                          k0 false
                        else
                          laws_toFrac N a1
                            (fun x1032 x1033 x1034 =>
                              laws_eqFrac N (x417, (x418, (x419, ()))) (x1032, (x1033, (x1034, ())))
                                (fun x1057 =>
                                  let x1058 := !x1057
                                  bif x1058 then
                                    k0 false
                                  else
                                    k0 true)))))))
theorem laws_FnExactFracSign.ex : ∃ f : ((α : Type) → Nat → (Bool × (List Int) × (List Int) × Unit) → (Bool → Option α) → Option α), f = fun α => @laws_FnExactFracSign.b α := ⟨_, rfl⟩
noncomputable def laws_FnExactFracSign {α : Type} : Nat → (Bool × (List Int) × (List Int) × Unit) → (Bool → Option α) → Option α := Classical.choose laws_FnExactFracSign.ex α
theorem laws_FnExactFracSign.eq : @laws_FnExactFracSign = @laws_FnExactFracSign.b := funext fun α => congrFun (Classical.choose_spec laws_FnExactFracSign.ex) α

end
end Go.Proofs.YthjjaddhcdekjaaAm
