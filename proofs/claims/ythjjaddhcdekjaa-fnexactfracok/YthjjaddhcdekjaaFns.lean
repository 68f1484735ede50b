/-
  The functions that the program computes, as the abstract machine tells them. Printed by amp.py.
-/
import Derived.Test.YthjjaddhcdekjaaAmb
namespace Go.Proofs.YthjjaddhcdekjaaAm
open Go
noncomputable section
set_option linter.unusedVariables false
set_option linter.unusedSimpArgs false

/-- loop.example/pinfold/laws.szIntS -/
noncomputable def laws_szIntS.b {α : Type} (N : Nat) (a4 : List Int) (a5 : Int) (k0 : Int → Option α) : Option α :=
  let x6 := ((a4.length : Nat) : Int)
  let x7 := IntKind.i64.wrap (a5 - x6)
  let x8 := (decide (x7 < (0 : Int)))
  bif x8 then
    k0 (-1 : Int)
  else
    k0 x7
theorem laws_szIntS.ex : ∃ f : ((α : Type) → Nat → List Int → Int → (Int → Option α) → Option α), f = fun α => @laws_szIntS.b α := ⟨_, rfl⟩
noncomputable def laws_szIntS {α : Type} : Nat → List Int → Int → (Int → Option α) → Option α := Classical.choose laws_szIntS.ex α
theorem laws_szIntS.eq : @laws_szIntS = @laws_szIntS.b := funext fun α => congrFun (Classical.choose_spec laws_szIntS.ex) α

/-- loop.example/pinfold/laws.szFrac -/
noncomputable def laws_szFrac.b {α : Type} (N : Nat) (a2 : Bool × (List Int) × (List Int) × Unit) (a3 : Int) (k0 : Int → Option α) : Option α :=
  laws_szIntS N a2.2.1 a3
    (fun x9 =>
      let x10 := (decide (x9 < (0 : Int)))
      bif x10 then
        k0 (-1 : Int)
      else
        laws_szIntS N a2.2.2.1 x9
          (fun x11 =>
            let x12 := (decide (x11 < (0 : Int)))
            bif x12 then
              k0 (-1 : Int)
            else
              k0 x11))
theorem laws_szFrac.ex : ∃ f : ((α : Type) → Nat → (Bool × (List Int) × (List Int) × Unit) → Int → (Int → Option α) → Option α), f = fun α => @laws_szFrac.b α := ⟨_, rfl⟩
noncomputable def laws_szFrac {α : Type} : Nat → (Bool × (List Int) × (List Int) × Unit) → Int → (Int → Option α) → Option α := Classical.choose laws_szFrac.ex α
theorem laws_szFrac.eq : @laws_szFrac = @laws_szFrac.b := funext fun α => congrFun (Classical.choose_spec laws_szFrac.ex) α

noncomputable def laws_toIntS_L0r {α : Type} (N : Nat) (next : List Int → Int → List Int → Option α) (k0 : List Int → Option α) (v19 : List Int) (v20 : Int) (v21 : List Int) : Option α :=
  let x22 := ((v19.length : Nat) : Int)
  let x23 := decide (v20 < x22)
  bif x23 then
    bif (decide (v20 < (0 : Int))) then
      none
    else
      match v19[v20.toNat]? with
      | some x24 =>
        bif (decide (v20 < (0 : Int))) then
          none
        else
          bif decide (v20.toNat < v21.length) then
            match v21[v20.toNat]? with
            | some x25 =>
              let x26 := v21.set v20.toNat x24
              let x27 := (IntKind.i64.wrap (v20 + (1 : Int)))
              next v19 x27 x26
            | none => none
          else
            none
      | none => none
  else
    k0 v21
noncomputable def laws_toIntS_L0.b {α : Type} (N n : Nat) (v19 : List Int) (v20 : Int) (v21 : List Int) (k0 : List Int → Option α) : Option α :=
  Nat.rec (motive := fun _ => List Int → Int → List Int → Option α) (fun _ _ _ => none) (fun _ next => laws_toIntS_L0r N next k0) n v19 v20 v21
theorem laws_toIntS_L0.ex : ∃ f : ((α : Type) → Nat → Nat → List Int → Int → List Int → (List Int → Option α) → Option α), f = fun α => @laws_toIntS_L0.b α := ⟨_, rfl⟩
noncomputable def laws_toIntS_L0 {α : Type} : Nat → Nat → List Int → Int → List Int → (List Int → Option α) → Option α := Classical.choose laws_toIntS_L0.ex α
theorem laws_toIntS_L0.eq : @laws_toIntS_L0 = @laws_toIntS_L0.b := funext fun α => congrFun (Classical.choose_spec laws_toIntS_L0.ex) α
theorem laws_toIntS_L0.zero {α : Type} (N : Nat) (v19 : List Int) (v20 : Int) (v21 : List Int) (k0 : List Int → Option α) : laws_toIntS_L0 N 0 v19 v20 v21 k0 = none := by rw [laws_toIntS_L0.eq]; rfl
theorem laws_toIntS_L0.succ {α : Type} (N n : Nat) (v19 : List Int) (v20 : Int) (v21 : List Int) (k0 : List Int → Option α) : laws_toIntS_L0 N (n + 1) v19 v20 v21 k0 = laws_toIntS_L0r N (fun y0 y1 y2 => laws_toIntS_L0 N n y0 y1 y2 k0) k0 v19 v20 v21 := by rw [laws_toIntS_L0.eq]; rfl
/-- loop.example/pinfold/laws.toIntS -/
noncomputable def laws_toIntS.b {α : Type} (N : Nat) (a16 : List Int) (k0 : List Int → Option α) : Option α :=
  let x17 := ((a16.length : Nat) : Int)
  bif (decide ((0 : Int) ≤ x17)) then
    bif decide (x17 ≤ x17) then
      bif (decide (x17 ≤ ((8796093022208 : Nat) : Int))) then
        let x18 := (List.replicate x17.toNat (0 : Int))
        laws_toIntS_L0 N N a16 (0 : Int) x18
          (fun x28 =>
            k0 x28)
      else
        none
    else
      none
  else
    none
theorem laws_toIntS.ex : ∃ f : ((α : Type) → Nat → List Int → (List Int → Option α) → Option α), f = fun α => @laws_toIntS.b α := ⟨_, rfl⟩
noncomputable def laws_toIntS {α : Type} : Nat → List Int → (List Int → Option α) → Option α := Classical.choose laws_toIntS.ex α
theorem laws_toIntS.eq : @laws_toIntS = @laws_toIntS.b := funext fun α => congrFun (Classical.choose_spec laws_toIntS.ex) α

/-- loop.example/pinfold/laws.toFrac -/
noncomputable def laws_toFrac.b {α : Type} (N : Nat) (a15 : Bool × (List Int) × (List Int) × Unit) (k0 : Bool → List Int → List Int → Option α) : Option α :=
  laws_toIntS N a15.2.1
    (fun x29 =>
      laws_toIntS N a15.2.2.1
        (fun x30 =>
          k0 a15.1 x29 x30))
theorem laws_toFrac.ex : ∃ f : ((α : Type) → Nat → (Bool × (List Int) × (List Int) × Unit) → (Bool → List Int → List Int → Option α) → Option α), f = fun α => @laws_toFrac.b α := ⟨_, rfl⟩
noncomputable def laws_toFrac {α : Type} : Nat → (Bool × (List Int) × (List Int) × Unit) → (Bool → List Int → List Int → Option α) → Option α := Classical.choose laws_toFrac.ex α
theorem laws_toFrac.eq : @laws_toFrac = @laws_toFrac.b := funext fun α => congrFun (Classical.choose_spec laws_toFrac.ex) α

noncomputable def spec_NatOk_L0r {α : Type} (N : Nat) (next : List Int → Int → Option α) (k0 : Bool → Option α) (k1 : List Int → Option α) (v38 : List Int) (v39 : Int) : Option α :=
  let x40 := ((v38.length : Nat) : Int)
  let x41 := decide (v39 < x40)
  bif x41 then
    bif (decide (v39 < (0 : Int))) then
      none
    else
      match v38[v39.toNat]? with
      | some x42 =>
        let x43 := (decide (x42 < (0 : Int)))
        bif x43 then
          k0 false
        else
          bif (decide (v39 < (0 : Int))) then
            none
          else
            match v38[v39.toNat]? with
            | some x44 =>
              let x45 := (decide ((65536 : Int) ≤ x44))
              bif x45 then
                k0 false
              else
                let x46 := (IntKind.i64.wrap (v39 + (1 : Int)))
                next v38 x46
            | none => none
      | none => none
  else
    k1 v38
noncomputable def spec_NatOk_L0.b {α : Type} (N n : Nat) (v38 : List Int) (v39 : Int) (k0 : Bool → Option α) (k1 : List Int → Option α) : Option α :=
  Nat.rec (motive := fun _ => List Int → Int → Option α) (fun _ _ => none) (fun _ next => spec_NatOk_L0r N next k0 k1) n v38 v39
theorem spec_NatOk_L0.ex : ∃ f : ((α : Type) → Nat → Nat → List Int → Int → (Bool → Option α) → (List Int → Option α) → Option α), f = fun α => @spec_NatOk_L0.b α := ⟨_, rfl⟩
noncomputable def spec_NatOk_L0 {α : Type} : Nat → Nat → List Int → Int → (Bool → Option α) → (List Int → Option α) → Option α := Classical.choose spec_NatOk_L0.ex α
theorem spec_NatOk_L0.eq : @spec_NatOk_L0 = @spec_NatOk_L0.b := funext fun α => congrFun (Classical.choose_spec spec_NatOk_L0.ex) α
theorem spec_NatOk_L0.zero {α : Type} (N : Nat) (v38 : List Int) (v39 : Int) (k0 : Bool → Option α) (k1 : List Int → Option α) : spec_NatOk_L0 N 0 v38 v39 k0 k1 = none := by rw [spec_NatOk_L0.eq]; rfl
theorem spec_NatOk_L0.succ {α : Type} (N n : Nat) (v38 : List Int) (v39 : Int) (k0 : Bool → Option α) (k1 : List Int → Option α) : spec_NatOk_L0 N (n + 1) v38 v39 k0 k1 = spec_NatOk_L0r N (fun y0 y1 => spec_NatOk_L0 N n y0 y1 k0 k1) k0 k1 v38 v39 := by rw [spec_NatOk_L0.eq]; rfl
/-- loop.example/pinfold/spec.NatOk -/
noncomputable def spec_NatOk.b {α : Type} (N : Nat) (a35 : List Int) (k0 : Bool → Option α) : Option α :=
  let x36 := ((a35.length : Nat) : Int)
  let x37 := (decide ((256 : Int) < x36))
  bif x37 then
    k0 false
  else
    spec_NatOk_L0 N N a35 (0 : Int)
      (fun x47 =>
        k0 x47)
      (fun x48 =>
        let x49 := ((x48.length : Nat) : Int)
        let x50 := (decide (x49 = (0 : Int)))
        bif x50 then
          k0 true
        else
          let x51 := ((x48.length : Nat) : Int)
          let x52 := (IntKind.i64.wrap (x51 - (1 : Int)))
          bif (decide (x52 < (0 : Int))) then
            none
          else
            match x48[x52.toNat]? with
            | some x53 =>
              let x54 := (!(decide (x53 = (0 : Int))))
              k0 x54
            | none => none)
theorem spec_NatOk.ex : ∃ f : ((α : Type) → Nat → List Int → (Bool → Option α) → Option α), f = fun α => @spec_NatOk.b α := ⟨_, rfl⟩
noncomputable def spec_NatOk {α : Type} : Nat → List Int → (Bool → Option α) → Option α := Classical.choose spec_NatOk.ex α
theorem spec_NatOk.eq : @spec_NatOk = @spec_NatOk.b := funext fun α => congrFun (Classical.choose_spec spec_NatOk.ex) α

noncomputable def spec_l5Trim_L0r {α : Type} (N : Nat) (next : List Int → Int → Option α) (k0 : List Int → Int → Option α) (v67 : List Int) (v68 : Int) : Option α :=
  let x69 := (decide ((0 : Int) < v68))
  bif x69 then
    let x70 := (IntKind.i64.wrap (v68 - (1 : Int)))
    bif (decide (x70 < (0 : Int))) then
      none
    else
      match v67[x70.toNat]? with
      | some x71 =>
        let x72 := (decide (x71 = (0 : Int)))
        bif x72 then
          let x73 := (IntKind.i64.wrap (v68 - (1 : Int)))
          next v67 x73
        else
          k0 v67 v68
      | none => none
  else
    k0 v67 v68
noncomputable def spec_l5Trim_L0.b {α : Type} (N n : Nat) (v67 : List Int) (v68 : Int) (k0 : List Int → Int → Option α) : Option α :=
  Nat.rec (motive := fun _ => List Int → Int → Option α) (fun _ _ => none) (fun _ next => spec_l5Trim_L0r N next k0) n v67 v68
theorem spec_l5Trim_L0.ex : ∃ f : ((α : Type) → Nat → Nat → List Int → Int → (List Int → Int → Option α) → Option α), f = fun α => @spec_l5Trim_L0.b α := ⟨_, rfl⟩
noncomputable def spec_l5Trim_L0 {α : Type} : Nat → Nat → List Int → Int → (List Int → Int → Option α) → Option α := Classical.choose spec_l5Trim_L0.ex α
theorem spec_l5Trim_L0.eq : @spec_l5Trim_L0 = @spec_l5Trim_L0.b := funext fun α => congrFun (Classical.choose_spec spec_l5Trim_L0.ex) α
theorem spec_l5Trim_L0.zero {α : Type} (N : Nat) (v67 : List Int) (v68 : Int) (k0 : List Int → Int → Option α) : spec_l5Trim_L0 N 0 v67 v68 k0 = none := by rw [spec_l5Trim_L0.eq]; rfl
theorem spec_l5Trim_L0.succ {α : Type} (N n : Nat) (v67 : List Int) (v68 : Int) (k0 : List Int → Int → Option α) : spec_l5Trim_L0 N (n + 1) v67 v68 k0 = spec_l5Trim_L0r N (fun y0 y1 => spec_l5Trim_L0 N n y0 y1 k0) k0 v67 v68 := by rw [spec_l5Trim_L0.eq]; rfl
noncomputable def spec_l5Trim_L2r {α : Type} (N : Nat) (next : List Int → Int → Int → List Int → Option α) (k0 : List Int → Option α) (v76 : List Int) (v77 : Int) (v78 : Int) (v79 : List Int) : Option α :=
  let x80 := decide (v78 < v77)
  bif x80 then
    bif (decide (v78 < (0 : Int))) then
      none
    else
      match v76[v78.toNat]? with
      | some x81 =>
        let x82 := [x81]
        bif decide (v79.length + x82.length ≤ 8796093022208) then
          let x83 := v79 ++ x82
          let x84 := (IntKind.i64.wrap (v78 + (1 : Int)))
          next v76 v77 x84 x83
        else
          none
      | none => none
  else
    k0 v79
noncomputable def spec_l5Trim_L2.b {α : Type} (N n : Nat) (v76 : List Int) (v77 : Int) (v78 : Int) (v79 : List Int) (k0 : List Int → Option α) : Option α :=
  Nat.rec (motive := fun _ => List Int → Int → Int → List Int → Option α) (fun _ _ _ _ => none) (fun _ next => spec_l5Trim_L2r N next k0) n v76 v77 v78 v79
theorem spec_l5Trim_L2.ex : ∃ f : ((α : Type) → Nat → Nat → List Int → Int → Int → List Int → (List Int → Option α) → Option α), f = fun α => @spec_l5Trim_L2.b α := ⟨_, rfl⟩
noncomputable def spec_l5Trim_L2 {α : Type} : Nat → Nat → List Int → Int → Int → List Int → (List Int → Option α) → Option α := Classical.choose spec_l5Trim_L2.ex α
theorem spec_l5Trim_L2.eq : @spec_l5Trim_L2 = @spec_l5Trim_L2.b := funext fun α => congrFun (Classical.choose_spec spec_l5Trim_L2.ex) α
theorem spec_l5Trim_L2.zero {α : Type} (N : Nat) (v76 : List Int) (v77 : Int) (v78 : Int) (v79 : List Int) (k0 : List Int → Option α) : spec_l5Trim_L2 N 0 v76 v77 v78 v79 k0 = none := by rw [spec_l5Trim_L2.eq]; rfl
theorem spec_l5Trim_L2.succ {α : Type} (N n : Nat) (v76 : List Int) (v77 : Int) (v78 : Int) (v79 : List Int) (k0 : List Int → Option α) : spec_l5Trim_L2 N (n + 1) v76 v77 v78 v79 k0 = spec_l5Trim_L2r N (fun y0 y1 y2 y3 => spec_l5Trim_L2 N n y0 y1 y2 y3 k0) k0 v76 v77 v78 v79 := by rw [spec_l5Trim_L2.eq]; rfl
/-- loop.example/pinfold/spec.l5Trim -/
noncomputable def spec_l5Trim.b {α : Type} (N : Nat) (a65 : List Int) (k0 : List Int → Option α) : Option α :=
  let x66 := ((a65.length : Nat) : Int)
  spec_l5Trim_L0 N N a65 x66
    (fun x74 x75 =>
      spec_l5Trim_L2 N N x74 x75 (0 : Int) []
        (fun x85 =>
          k0 x85))
theorem spec_l5Trim.ex : ∃ f : ((α : Type) → Nat → List Int → (List Int → Option α) → Option α), f = fun α => @spec_l5Trim.b α := ⟨_, rfl⟩
noncomputable def spec_l5Trim {α : Type} : Nat → List Int → (List Int → Option α) → Option α := Classical.choose spec_l5Trim.ex α
theorem spec_l5Trim.eq : @spec_l5Trim = @spec_l5Trim.b := funext fun α => congrFun (Classical.choose_spec spec_l5Trim.ex) α

noncomputable def spec_l5Cmp_L0r {α : Type} (N : Nat) (next : List Int → List Int → Int → Option α) (k0 : Int → Option α) (k1 : Option α) (v104 : List Int) (v105 : List Int) (v106 : Int) : Option α :=
  let x107 := (decide ((0 : Int) ≤ v106))
  bif x107 then
    bif (decide (v106 < (0 : Int))) then
      none
    else
      match v104[v106.toNat]? with
      | some x108 =>
        bif (decide (v106 < (0 : Int))) then
          none
        else
          match v105[v106.toNat]? with
          | some x109 =>
            let x110 := decide (x108 < x109)
            bif x110 then
              k0 (-1 : Int)
            else
              bif (decide (v106 < (0 : Int))) then
                none
              else
                match v104[v106.toNat]? with
                | some x111 =>
                  bif (decide (v106 < (0 : Int))) then
                    none
                  else
                    match v105[v106.toNat]? with
                    | some x112 =>
                      let x113 := decide (x112 < x111)
                      bif x113 then
                        k0 (1 : Int)
                      else
                        let x114 := (IntKind.i64.wrap (v106 - (1 : Int)))
                        next v104 v105 x114
                    | none => none
                | none => none
          | none => none
      | none => none
  else
    k1
noncomputable def spec_l5Cmp_L0.b {α : Type} (N n : Nat) (v104 : List Int) (v105 : List Int) (v106 : Int) (k0 : Int → Option α) (k1 : Option α) : Option α :=
  Nat.rec (motive := fun _ => List Int → List Int → Int → Option α) (fun _ _ _ => none) (fun _ next => spec_l5Cmp_L0r N next k0 k1) n v104 v105 v106
theorem spec_l5Cmp_L0.ex : ∃ f : ((α : Type) → Nat → Nat → List Int → List Int → Int → (Int → Option α) → (Option α) → Option α), f = fun α => @spec_l5Cmp_L0.b α := ⟨_, rfl⟩
noncomputable def spec_l5Cmp_L0 {α : Type} : Nat → Nat → List Int → List Int → Int → (Int → Option α) → (Option α) → Option α := Classical.choose spec_l5Cmp_L0.ex α
theorem spec_l5Cmp_L0.eq : @spec_l5Cmp_L0 = @spec_l5Cmp_L0.b := funext fun α => congrFun (Classical.choose_spec spec_l5Cmp_L0.ex) α
theorem spec_l5Cmp_L0.zero {α : Type} (N : Nat) (v104 : List Int) (v105 : List Int) (v106 : Int) (k0 : Int → Option α) (k1 : Option α) : spec_l5Cmp_L0 N 0 v104 v105 v106 k0 k1 = none := by rw [spec_l5Cmp_L0.eq]; rfl
theorem spec_l5Cmp_L0.succ {α : Type} (N n : Nat) (v104 : List Int) (v105 : List Int) (v106 : Int) (k0 : Int → Option α) (k1 : Option α) : spec_l5Cmp_L0 N (n + 1) v104 v105 v106 k0 k1 = spec_l5Cmp_L0r N (fun y0 y1 y2 => spec_l5Cmp_L0 N n y0 y1 y2 k0 k1) k0 k1 v104 v105 v106 := by rw [spec_l5Cmp_L0.eq]; rfl
/-- loop.example/pinfold/spec.l5Cmp -/
noncomputable def spec_l5Cmp.b {α : Type} (N : Nat) (a94 : List Int) (a95 : List Int) (k0 : Int → Option α) : Option α :=
  let x96 := ((a94.length : Nat) : Int)
  let x97 := ((a95.length : Nat) : Int)
  let x98 := decide (x96 < x97)
  bif x98 then
    k0 (-1 : Int)
  else
    let x99 := ((a94.length : Nat) : Int)
    let x100 := ((a95.length : Nat) : Int)
    let x101 := decide (x100 < x99)
    bif x101 then
      k0 (1 : Int)
    else
      let x102 := ((a94.length : Nat) : Int)
      let x103 := (IntKind.i64.wrap (x102 - (1 : Int)))
      spec_l5Cmp_L0 N N a94 a95 x103
        (fun x115 =>
          k0 x115)
        (
          k0 (0 : Int))
theorem spec_l5Cmp.ex : ∃ f : ((α : Type) → Nat → List Int → List Int → (Int → Option α) → Option α), f = fun α => @spec_l5Cmp.b α := ⟨_, rfl⟩
noncomputable def spec_l5Cmp {α : Type} : Nat → List Int → List Int → (Int → Option α) → Option α := Classical.choose spec_l5Cmp.ex α
theorem spec_l5Cmp.eq : @spec_l5Cmp = @spec_l5Cmp.b := funext fun α => congrFun (Classical.choose_spec spec_l5Cmp.ex) α

noncomputable def spec_l5DivSmall_L0r {α : Type} (N : Nat) (next : List Int → Int → Int → Int → List Int → Option α) (k0 : Int → List Int → Option α) (v128 : List Int) (v129 : Int) (v130 : Int) (v131 : Int) (v132 : List Int) : Option α :=
  let x133 := (decide ((0 : Int) ≤ v131))
  bif x133 then
    let x134 := (IntKind.i64.wrap (v130 * (65536 : Int)))
    bif (decide (v131 < (0 : Int))) then
      none
    else
      match v128[v131.toNat]? with
      | some x135 =>
        let x136 := IntKind.i64.wrap (x134 + x135)
        bif (decide (v129 = (0 : Int))) then
          none
        else
          let x137 := IntKind.i64.wrap (Int.tdiv x136 v129)
          bif (decide (v131 < (0 : Int))) then
            none
          else
            bif decide (v131.toNat < v132.length) then
              match v132[v131.toNat]? with
              | some x138 =>
                let x139 := v132.set v131.toNat x137
                bif (decide (v129 = (0 : Int))) then
                  none
                else
                  let x140 := Int.tmod x136 v129
                  let x141 := (IntKind.i64.wrap (v131 - (1 : Int)))
                  next v128 v129 x140 x141 x139
              | none => none
            else
              none
      | none => none
  else
    k0 v130 v132
noncomputable def spec_l5DivSmall_L0.b {α : Type} (N n : Nat) (v128 : List Int) (v129 : Int) (v130 : Int) (v131 : Int) (v132 : List Int) (k0 : Int → List Int → Option α) : Option α :=
  Nat.rec (motive := fun _ => List Int → Int → Int → Int → List Int → Option α) (fun _ _ _ _ _ => none) (fun _ next => spec_l5DivSmall_L0r N next k0) n v128 v129 v130 v131 v132
theorem spec_l5DivSmall_L0.ex : ∃ f : ((α : Type) → Nat → Nat → List Int → Int → Int → Int → List Int → (Int → List Int → Option α) → Option α), f = fun α => @spec_l5DivSmall_L0.b α := ⟨_, rfl⟩
noncomputable def spec_l5DivSmall_L0 {α : Type} : Nat → Nat → List Int → Int → Int → Int → List Int → (Int → List Int → Option α) → Option α := Classical.choose spec_l5DivSmall_L0.ex α
theorem spec_l5DivSmall_L0.eq : @spec_l5DivSmall_L0 = @spec_l5DivSmall_L0.b := funext fun α => congrFun (Classical.choose_spec spec_l5DivSmall_L0.ex) α
theorem spec_l5DivSmall_L0.zero {α : Type} (N : Nat) (v128 : List Int) (v129 : Int) (v130 : Int) (v131 : Int) (v132 : List Int) (k0 : Int → List Int → Option α) : spec_l5DivSmall_L0 N 0 v128 v129 v130 v131 v132 k0 = none := by rw [spec_l5DivSmall_L0.eq]; rfl
theorem spec_l5DivSmall_L0.succ {α : Type} (N n : Nat) (v128 : List Int) (v129 : Int) (v130 : Int) (v131 : Int) (v132 : List Int) (k0 : Int → List Int → Option α) : spec_l5DivSmall_L0 N (n + 1) v128 v129 v130 v131 v132 k0 = spec_l5DivSmall_L0r N (fun y0 y1 y2 y3 y4 => spec_l5DivSmall_L0 N n y0 y1 y2 y3 y4 k0) k0 v128 v129 v130 v131 v132 := by rw [spec_l5DivSmall_L0.eq]; rfl
/-- loop.example/pinfold/spec.l5DivSmall -/
noncomputable def spec_l5DivSmall.b {α : Type} (N : Nat) (a122 : List Int) (a123 : Int) (k0 : Int → List Int → Option α) : Option α :=
  let x124 := ((a122.length : Nat) : Int)
  bif (decide ((0 : Int) ≤ x124)) then
    bif decide (x124 ≤ x124) then
      bif (decide (x124 ≤ ((8796093022208 : Nat) : Int))) then
        let x125 := (List.replicate x124.toNat (0 : Int))
        let x126 := ((a122.length : Nat) : Int)
        let x127 := (IntKind.i64.wrap (x126 - (1 : Int)))
        spec_l5DivSmall_L0 N N a122 a123 (0 : Int) x127 x125
          (fun x142 x143 =>
            spec_l5Trim N x143
              (fun x144 =>
                k0 x142 x144))
      else
        none
    else
      none
  else
    none
theorem spec_l5DivSmall.ex : ∃ f : ((α : Type) → Nat → List Int → Int → (Int → List Int → Option α) → Option α), f = fun α => @spec_l5DivSmall.b α := ⟨_, rfl⟩
noncomputable def spec_l5DivSmall {α : Type} : Nat → List Int → Int → (Int → List Int → Option α) → Option α := Classical.choose spec_l5DivSmall.ex α
theorem spec_l5DivSmall.eq : @spec_l5DivSmall = @spec_l5DivSmall.b := funext fun α => congrFun (Classical.choose_spec spec_l5DivSmall.ex) α

noncomputable def spec_NatOf_L0r {α : Type} (N : Nat) (next : Int → List Int → Option α) (k0 : List Int → Option α) (v149 : Int) (v150 : List Int) : Option α :=
  let x151 := (decide ((0 : Int) < v149))
  bif x151 then
    let x152 := (Int.tmod v149 (65536 : Int))
    let x153 := IntKind.i64.wrap x152
    let x154 := [x153]
    bif decide (v150.length + x154.length ≤ 8796093022208) then
      let x155 := v150 ++ x154
      let x156 := (IntKind.u64.wrap (Int.tdiv v149 (65536 : Int)))
      next x156 x155
    else
      none
  else
    k0 v150
noncomputable def spec_NatOf_L0.b {α : Type} (N n : Nat) (v149 : Int) (v150 : List Int) (k0 : List Int → Option α) : Option α :=
  Nat.rec (motive := fun _ => Int → List Int → Option α) (fun _ _ => none) (fun _ next => spec_NatOf_L0r N next k0) n v149 v150
theorem spec_NatOf_L0.ex : ∃ f : ((α : Type) → Nat → Nat → Int → List Int → (List Int → Option α) → Option α), f = fun α => @spec_NatOf_L0.b α := ⟨_, rfl⟩
noncomputable def spec_NatOf_L0 {α : Type} : Nat → Nat → Int → List Int → (List Int → Option α) → Option α := Classical.choose spec_NatOf_L0.ex α
theorem spec_NatOf_L0.eq : @spec_NatOf_L0 = @spec_NatOf_L0.b := funext fun α => congrFun (Classical.choose_spec spec_NatOf_L0.ex) α
theorem spec_NatOf_L0.zero {α : Type} (N : Nat) (v149 : Int) (v150 : List Int) (k0 : List Int → Option α) : spec_NatOf_L0 N 0 v149 v150 k0 = none := by rw [spec_NatOf_L0.eq]; rfl
theorem spec_NatOf_L0.succ {α : Type} (N n : Nat) (v149 : Int) (v150 : List Int) (k0 : List Int → Option α) : spec_NatOf_L0 N (n + 1) v149 v150 k0 = spec_NatOf_L0r N (fun y0 y1 => spec_NatOf_L0 N n y0 y1 k0) k0 v149 v150 := by rw [spec_NatOf_L0.eq]; rfl
/-- loop.example/pinfold/spec.NatOf -/
noncomputable def spec_NatOf.b {α : Type} (N : Nat) (a148 : Int) (k0 : List Int → Option α) : Option α :=
  spec_NatOf_L0 N N a148 []
    (fun x157 =>
      k0 x157)
theorem spec_NatOf.ex : ∃ f : ((α : Type) → Nat → Int → (List Int → Option α) → Option α), f = fun α => @spec_NatOf.b α := ⟨_, rfl⟩
noncomputable def spec_NatOf {α : Type} : Nat → Int → (List Int → Option α) → Option α := Classical.choose spec_NatOf.ex α
theorem spec_NatOf.eq : @spec_NatOf = @spec_NatOf.b := funext fun α => congrFun (Classical.choose_spec spec_NatOf.ex) α

noncomputable def spec_l5Mul_L2r {α : Type} (N : Nat) (next : List Int → List Int → Int → Int → Int → List Int → Option α) (k0 : List Int → List Int → Int → Int → List Int → Option α) (v180 : List Int) (v181 : List Int) (v182 : Int) (v183 : Int) (v184 : Int) (v185 : List Int) : Option α :=
  let x186 := ((v181.length : Nat) : Int)
  let x187 := decide (v184 < x186)
  bif x187 then
    let x188 := IntKind.i64.wrap (v182 + v184)
    bif (decide (x188 < (0 : Int))) then
      none
    else
      bif decide (x188.toNat < v185.length) then
        match v185[x188.toNat]? with
        | some x189 =>
          bif (decide (v182 < (0 : Int))) then
            none
          else
            match v180[v182.toNat]? with
            | some x190 =>
              bif (decide (v184 < (0 : Int))) then
                none
              else
                match v181[v184.toNat]? with
                | some x191 =>
                  let x192 := IntKind.i64.wrap (x190 * x191)
                  let x193 := IntKind.i64.wrap (x189 + x192)
                  let x194 := IntKind.i64.wrap (x193 + v183)
                  let x195 := IntKind.i64.wrap (v182 + v184)
                  let x196 := (Int.tmod x194 (65536 : Int))
                  bif (decide (x195 < (0 : Int))) then
                    none
                  else
                    bif decide (x195.toNat < v185.length) then
                      match v185[x195.toNat]? with
                      | some x197 =>
                        let x198 := v185.set x195.toNat x196
                        let x199 := (IntKind.i64.wrap (Int.tdiv x194 (65536 : Int)))
                        let x200 := (IntKind.i64.wrap (v184 + (1 : Int)))
                        next v180 v181 v182 x199 x200 x198
                      | none => none
                    else
                      none
                | none => none
            | none => none
        | none => none
      else
        none
  else
    k0 v180 v181 v182 v183 v185
noncomputable def spec_l5Mul_L2.b {α : Type} (N n : Nat) (v180 : List Int) (v181 : List Int) (v182 : Int) (v183 : Int) (v184 : Int) (v185 : List Int) (k0 : List Int → List Int → Int → Int → List Int → Option α) : Option α :=
  Nat.rec (motive := fun _ => List Int → List Int → Int → Int → Int → List Int → Option α) (fun _ _ _ _ _ _ => none) (fun _ next => spec_l5Mul_L2r N next k0) n v180 v181 v182 v183 v184 v185
theorem spec_l5Mul_L2.ex : ∃ f : ((α : Type) → Nat → Nat → List Int → List Int → Int → Int → Int → List Int → (List Int → List Int → Int → Int → List Int → Option α) → Option α), f = fun α => @spec_l5Mul_L2.b α := ⟨_, rfl⟩
noncomputable def spec_l5Mul_L2 {α : Type} : Nat → Nat → List Int → List Int → Int → Int → Int → List Int → (List Int → List Int → Int → Int → List Int → Option α) → Option α := Classical.choose spec_l5Mul_L2.ex α
theorem spec_l5Mul_L2.eq : @spec_l5Mul_L2 = @spec_l5Mul_L2.b := funext fun α => congrFun (Classical.choose_spec spec_l5Mul_L2.ex) α
theorem spec_l5Mul_L2.zero {α : Type} (N : Nat) (v180 : List Int) (v181 : List Int) (v182 : Int) (v183 : Int) (v184 : Int) (v185 : List Int) (k0 : List Int → List Int → Int → Int → List Int → Option α) : spec_l5Mul_L2 N 0 v180 v181 v182 v183 v184 v185 k0 = none := by rw [spec_l5Mul_L2.eq]; rfl
theorem spec_l5Mul_L2.succ {α : Type} (N n : Nat) (v180 : List Int) (v181 : List Int) (v182 : Int) (v183 : Int) (v184 : Int) (v185 : List Int) (k0 : List Int → List Int → Int → Int → List Int → Option α) : spec_l5Mul_L2 N (n + 1) v180 v181 v182 v183 v184 v185 k0 = spec_l5Mul_L2r N (fun y0 y1 y2 y3 y4 y5 => spec_l5Mul_L2 N n y0 y1 y2 y3 y4 y5 k0) k0 v180 v181 v182 v183 v184 v185 := by rw [spec_l5Mul_L2.eq]; rfl
noncomputable def spec_l5Mul_L0r {α : Type} (N : Nat) (next : List Int → List Int → Int → List Int → Option α) (k0 : List Int → Option α) (v174 : List Int) (v175 : List Int) (v176 : Int) (v177 : List Int) : Option α :=
  let x178 := ((v174.length : Nat) : Int)
  let x179 := decide (v176 < x178)
  bif x179 then
    spec_l5Mul_L2 N N v174 v175 v176 (0 : Int) (0 : Int) v177
      (fun x201 x202 x203 x204 x205 =>
        let x206 := ((x202.length : Nat) : Int)
        let x207 := IntKind.i64.wrap (x203 + x206)
        bif (decide (x207 < (0 : Int))) then
          none
        else
          bif decide (x207.toNat < x205.length) then
            match x205[x207.toNat]? with
            | some x208 =>
              let x209 := x205.set x207.toNat x204
              let x210 := (IntKind.i64.wrap (x203 + (1 : Int)))
              next x201 x202 x210 x209
            | none => none
          else
            none)
  else
    k0 v177
noncomputable def spec_l5Mul_L0.b {α : Type} (N n : Nat) (v174 : List Int) (v175 : List Int) (v176 : Int) (v177 : List Int) (k0 : List Int → Option α) : Option α :=
  Nat.rec (motive := fun _ => List Int → List Int → Int → List Int → Option α) (fun _ _ _ _ => none) (fun _ next => spec_l5Mul_L0r N next k0) n v174 v175 v176 v177
theorem spec_l5Mul_L0.ex : ∃ f : ((α : Type) → Nat → Nat → List Int → List Int → Int → List Int → (List Int → Option α) → Option α), f = fun α => @spec_l5Mul_L0.b α := ⟨_, rfl⟩
noncomputable def spec_l5Mul_L0 {α : Type} : Nat → Nat → List Int → List Int → Int → List Int → (List Int → Option α) → Option α := Classical.choose spec_l5Mul_L0.ex α
theorem spec_l5Mul_L0.eq : @spec_l5Mul_L0 = @spec_l5Mul_L0.b := funext fun α => congrFun (Classical.choose_spec spec_l5Mul_L0.ex) α
theorem spec_l5Mul_L0.zero {α : Type} (N : Nat) (v174 : List Int) (v175 : List Int) (v176 : Int) (v177 : List Int) (k0 : List Int → Option α) : spec_l5Mul_L0 N 0 v174 v175 v176 v177 k0 = none := by rw [spec_l5Mul_L0.eq]; rfl
theorem spec_l5Mul_L0.succ {α : Type} (N n : Nat) (v174 : List Int) (v175 : List Int) (v176 : Int) (v177 : List Int) (k0 : List Int → Option α) : spec_l5Mul_L0 N (n + 1) v174 v175 v176 v177 k0 = spec_l5Mul_L0r N (fun y0 y1 y2 y3 => spec_l5Mul_L0 N n y0 y1 y2 y3 k0) k0 v174 v175 v176 v177 := by rw [spec_l5Mul_L0.eq]; rfl
/-- loop.example/pinfold/spec.l5Mul -/
noncomputable def spec_l5Mul.b {α : Type} (N : Nat) (a168 : List Int) (a169 : List Int) (k0 : List Int → Option α) : Option α :=
  let x170 := ((a168.length : Nat) : Int)
  let x171 := ((a169.length : Nat) : Int)
  let x172 := IntKind.i64.wrap (x170 + x171)
  bif (decide ((0 : Int) ≤ x172)) then
    bif decide (x172 ≤ x172) then
      bif (decide (x172 ≤ ((8796093022208 : Nat) : Int))) then
        let x173 := (List.replicate x172.toNat (0 : Int))
        spec_l5Mul_L0 N N a168 a169 (0 : Int) x173
          (fun x211 =>
            spec_l5Trim N x211
              (fun x212 =>
                k0 x212))
      else
        none
    else
      none
  else
    none
theorem spec_l5Mul.ex : ∃ f : ((α : Type) → Nat → List Int → List Int → (List Int → Option α) → Option α), f = fun α => @spec_l5Mul.b α := ⟨_, rfl⟩
noncomputable def spec_l5Mul {α : Type} : Nat → List Int → List Int → (List Int → Option α) → Option α := Classical.choose spec_l5Mul.ex α
theorem spec_l5Mul.eq : @spec_l5Mul = @spec_l5Mul.b := funext fun α => congrFun (Classical.choose_spec spec_l5Mul.ex) α

/-- loop.example/pinfold/spec.l5Times -/
noncomputable def spec_l5Times.b {α : Type} (N : Nat) (a164 : List Int) (a165 : Int) (k0 : List Int → Option α) : Option α :=
  let x166 := (decide (a165 = (0 : Int)))
  bif x166 then
    k0 []
  else
    let x167 := [a165]
    spec_l5Mul N a164 x167
      (fun x213 =>
        k0 x213)
theorem spec_l5Times.ex : ∃ f : ((α : Type) → Nat → List Int → Int → (List Int → Option α) → Option α), f = fun α => @spec_l5Times.b α := ⟨_, rfl⟩
noncomputable def spec_l5Times {α : Type} : Nat → List Int → Int → (List Int → Option α) → Option α := Classical.choose spec_l5Times.ex α
theorem spec_l5Times.eq : @spec_l5Times = @spec_l5Times.b := funext fun α => congrFun (Classical.choose_spec spec_l5Times.ex) α

noncomputable def spec_l5Top_L0r {α : Type} (N : Nat) (next : List Int → Int → List Int → Option α) (k0 : List Int → Option α) (v226 : List Int) (v227 : Int) (v228 : List Int) : Option α :=
  let x229 := ((v226.length : Nat) : Int)
  let x230 := decide (v227 < x229)
  bif x230 then
    bif (decide (v227 < (0 : Int))) then
      none
    else
      match v226[v227.toNat]? with
      | some x231 =>
        let x232 := [x231]
        bif decide (v228.length + x232.length ≤ 8796093022208) then
          let x233 := v228 ++ x232
          let x234 := (IntKind.i64.wrap (v227 + (1 : Int)))
          next v226 x234 x233
        else
          none
      | none => none
  else
    k0 v228
noncomputable def spec_l5Top_L0.b {α : Type} (N n : Nat) (v226 : List Int) (v227 : Int) (v228 : List Int) (k0 : List Int → Option α) : Option α :=
  Nat.rec (motive := fun _ => List Int → Int → List Int → Option α) (fun _ _ _ => none) (fun _ next => spec_l5Top_L0r N next k0) n v226 v227 v228
theorem spec_l5Top_L0.ex : ∃ f : ((α : Type) → Nat → Nat → List Int → Int → List Int → (List Int → Option α) → Option α), f = fun α => @spec_l5Top_L0.b α := ⟨_, rfl⟩
noncomputable def spec_l5Top_L0 {α : Type} : Nat → Nat → List Int → Int → List Int → (List Int → Option α) → Option α := Classical.choose spec_l5Top_L0.ex α
theorem spec_l5Top_L0.eq : @spec_l5Top_L0 = @spec_l5Top_L0.b := funext fun α => congrFun (Classical.choose_spec spec_l5Top_L0.ex) α
theorem spec_l5Top_L0.zero {α : Type} (N : Nat) (v226 : List Int) (v227 : Int) (v228 : List Int) (k0 : List Int → Option α) : spec_l5Top_L0 N 0 v226 v227 v228 k0 = none := by rw [spec_l5Top_L0.eq]; rfl
theorem spec_l5Top_L0.succ {α : Type} (N n : Nat) (v226 : List Int) (v227 : Int) (v228 : List Int) (k0 : List Int → Option α) : spec_l5Top_L0 N (n + 1) v226 v227 v228 k0 = spec_l5Top_L0r N (fun y0 y1 y2 => spec_l5Top_L0 N n y0 y1 y2 k0) k0 v226 v227 v228 := by rw [spec_l5Top_L0.eq]; rfl
/-- loop.example/pinfold/spec.l5Top -/
noncomputable def spec_l5Top.b {α : Type} (N : Nat) (a224 : List Int) (a225 : Int) (k0 : List Int → Option α) : Option α :=
  spec_l5Top_L0 N N a224 a225 []
    (fun x235 =>
      k0 x235)
theorem spec_l5Top.ex : ∃ f : ((α : Type) → Nat → List Int → Int → (List Int → Option α) → Option α), f = fun α => @spec_l5Top.b α := ⟨_, rfl⟩
noncomputable def spec_l5Top {α : Type} : Nat → List Int → Int → (List Int → Option α) → Option α := Classical.choose spec_l5Top.ex α
theorem spec_l5Top.eq : @spec_l5Top = @spec_l5Top.b := funext fun α => congrFun (Classical.choose_spec spec_l5Top.ex) α

noncomputable def spec_l5Shl_L0r {α : Type} (N : Nat) (next : List Int → Int → List Int → Option α) (k0 : List Int → Option α) (v252 : List Int) (v253 : Int) (v254 : List Int) : Option α :=
  let x255 := ((v252.length : Nat) : Int)
  let x256 := decide (v253 < x255)
  bif x256 then
    bif (decide (v253 < (0 : Int))) then
      none
    else
      match v252[v253.toNat]? with
      | some x257 =>
        let x258 := [x257]
        bif decide (v254.length + x258.length ≤ 8796093022208) then
          let x259 := v254 ++ x258
          let x260 := (IntKind.i64.wrap (v253 + (1 : Int)))
          next v252 x260 x259
        else
          none
      | none => none
  else
    k0 v254
noncomputable def spec_l5Shl_L0.b {α : Type} (N n : Nat) (v252 : List Int) (v253 : Int) (v254 : List Int) (k0 : List Int → Option α) : Option α :=
  Nat.rec (motive := fun _ => List Int → Int → List Int → Option α) (fun _ _ _ => none) (fun _ next => spec_l5Shl_L0r N next k0) n v252 v253 v254
theorem spec_l5Shl_L0.ex : ∃ f : ((α : Type) → Nat → Nat → List Int → Int → List Int → (List Int → Option α) → Option α), f = fun α => @spec_l5Shl_L0.b α := ⟨_, rfl⟩
noncomputable def spec_l5Shl_L0 {α : Type} : Nat → Nat → List Int → Int → List Int → (List Int → Option α) → Option α := Classical.choose spec_l5Shl_L0.ex α
theorem spec_l5Shl_L0.eq : @spec_l5Shl_L0 = @spec_l5Shl_L0.b := funext fun α => congrFun (Classical.choose_spec spec_l5Shl_L0.ex) α
theorem spec_l5Shl_L0.zero {α : Type} (N : Nat) (v252 : List Int) (v253 : Int) (v254 : List Int) (k0 : List Int → Option α) : spec_l5Shl_L0 N 0 v252 v253 v254 k0 = none := by rw [spec_l5Shl_L0.eq]; rfl
theorem spec_l5Shl_L0.succ {α : Type} (N n : Nat) (v252 : List Int) (v253 : Int) (v254 : List Int) (k0 : List Int → Option α) : spec_l5Shl_L0 N (n + 1) v252 v253 v254 k0 = spec_l5Shl_L0r N (fun y0 y1 y2 => spec_l5Shl_L0 N n y0 y1 y2 k0) k0 v252 v253 v254 := by rw [spec_l5Shl_L0.eq]; rfl
/-- loop.example/pinfold/spec.l5Shl -/
noncomputable def spec_l5Shl.b {α : Type} (N : Nat) (a247 : List Int) (a248 : Int) (k0 : List Int → Option α) : Option α :=
  let x249 := ((a247.length : Nat) : Int)
  let x250 := (decide (x249 = (0 : Int)))
  bif x250 then
    k0 []
  else
    bif (decide ((0 : Int) ≤ a248)) then
      bif decide (a248 ≤ a248) then
        bif (decide (a248 ≤ ((8796093022208 : Nat) : Int))) then
          let x251 := (List.replicate a248.toNat (0 : Int))
          spec_l5Shl_L0 N N a247 (0 : Int) x251
            (fun x261 =>
              k0 x261)
        else
          none
      else
        none
    else
      none
theorem spec_l5Shl.ex : ∃ f : ((α : Type) → Nat → List Int → Int → (List Int → Option α) → Option α), f = fun α => @spec_l5Shl.b α := ⟨_, rfl⟩
noncomputable def spec_l5Shl {α : Type} : Nat → List Int → Int → (List Int → Option α) → Option α := Classical.choose spec_l5Shl.ex α
theorem spec_l5Shl.eq : @spec_l5Shl = @spec_l5Shl.b := funext fun α => congrFun (Classical.choose_spec spec_l5Shl.ex) α

/-- loop.example/pinfold/spec.l5At -/
noncomputable def spec_l5At.b {α : Type} (N : Nat) (a285 : List Int) (a286 : Int) (k0 : Int → Option α) : Option α :=
  let x287 := ((a285.length : Nat) : Int)
  let x288 := decide (a286 < x287)
  bif x288 then
    bif (decide (a286 < (0 : Int))) then
      none
    else
      match a285[a286.toNat]? with
      | some x289 =>
        k0 x289
      | none => none
  else
    k0 (0 : Int)
theorem spec_l5At.ex : ∃ f : ((α : Type) → Nat → List Int → Int → (Int → Option α) → Option α), f = fun α => @spec_l5At.b α := ⟨_, rfl⟩
noncomputable def spec_l5At {α : Type} : Nat → List Int → Int → (Int → Option α) → Option α := Classical.choose spec_l5At.ex α
theorem spec_l5At.eq : @spec_l5At = @spec_l5At.b := funext fun α => congrFun (Classical.choose_spec spec_l5At.ex) α

noncomputable def spec_l5Add_J2.b {α : Type} (N : Nat) (v269 : List Int) (v270 : List Int) (v271 : Int) (k0 : List Int → List Int → Int → Option α) : Option α :=
  let x272 := ((v270.length : Nat) : Int)
  let x273 := decide (v271 < x272)
  bif x273 then
    let x274 := ((v270.length : Nat) : Int)
    k0 v269 v270 x274
  else
    k0 v269 v270 v271
theorem spec_l5Add_J2.ex : ∃ f : ((α : Type) → Nat → List Int → List Int → Int → (List Int → List Int → Int → Option α) → Option α), f = fun α => @spec_l5Add_J2.b α := ⟨_, rfl⟩
noncomputable def spec_l5Add_J2 {α : Type} : Nat → List Int → List Int → Int → (List Int → List Int → Int → Option α) → Option α := Classical.choose spec_l5Add_J2.ex α
theorem spec_l5Add_J2.eq : @spec_l5Add_J2 = @spec_l5Add_J2.b := funext fun α => congrFun (Classical.choose_spec spec_l5Add_J2.ex) α
noncomputable def spec_l5Add_L0r {α : Type} (N : Nat) (next : List Int → List Int → Int → Int → Int → List Int → Option α) (k0 : Int → List Int → Option α) (v278 : List Int) (v279 : List Int) (v280 : Int) (v281 : Int) (v282 : Int) (v283 : List Int) : Option α :=
  let x284 := decide (v282 < v280)
  bif x284 then
    spec_l5At N v278 v282
      (fun x290 =>
        spec_l5At N v279 v282
          (fun x291 =>
            let x292 := IntKind.i64.wrap (x290 + x291)
            let x293 := IntKind.i64.wrap (x292 + v281)
            let x294 := (Int.tmod x293 (65536 : Int))
            let x295 := [x294]
            bif decide (v283.length + x295.length ≤ 8796093022208) then
              let x296 := v283 ++ x295
              let x297 := (IntKind.i64.wrap (Int.tdiv x293 (65536 : Int)))
              let x298 := (IntKind.i64.wrap (v282 + (1 : Int)))
              next v278 v279 v280 x297 x298 x296
            else
              none))
  else
    k0 v281 v283
noncomputable def spec_l5Add_L0.b {α : Type} (N n : Nat) (v278 : List Int) (v279 : List Int) (v280 : Int) (v281 : Int) (v282 : Int) (v283 : List Int) (k0 : Int → List Int → Option α) : Option α :=
  Nat.rec (motive := fun _ => List Int → List Int → Int → Int → Int → List Int → Option α) (fun _ _ _ _ _ _ => none) (fun _ next => spec_l5Add_L0r N next k0) n v278 v279 v280 v281 v282 v283
theorem spec_l5Add_L0.ex : ∃ f : ((α : Type) → Nat → Nat → List Int → List Int → Int → Int → Int → List Int → (Int → List Int → Option α) → Option α), f = fun α => @spec_l5Add_L0.b α := ⟨_, rfl⟩
noncomputable def spec_l5Add_L0 {α : Type} : Nat → Nat → List Int → List Int → Int → Int → Int → List Int → (Int → List Int → Option α) → Option α := Classical.choose spec_l5Add_L0.ex α
theorem spec_l5Add_L0.eq : @spec_l5Add_L0 = @spec_l5Add_L0.b := funext fun α => congrFun (Classical.choose_spec spec_l5Add_L0.ex) α
theorem spec_l5Add_L0.zero {α : Type} (N : Nat) (v278 : List Int) (v279 : List Int) (v280 : Int) (v281 : Int) (v282 : Int) (v283 : List Int) (k0 : Int → List Int → Option α) : spec_l5Add_L0 N 0 v278 v279 v280 v281 v282 v283 k0 = none := by rw [spec_l5Add_L0.eq]; rfl
theorem spec_l5Add_L0.succ {α : Type} (N n : Nat) (v278 : List Int) (v279 : List Int) (v280 : Int) (v281 : Int) (v282 : Int) (v283 : List Int) (k0 : Int → List Int → Option α) : spec_l5Add_L0 N (n + 1) v278 v279 v280 v281 v282 v283 k0 = spec_l5Add_L0r N (fun y0 y1 y2 y3 y4 y5 => spec_l5Add_L0 N n y0 y1 y2 y3 y4 y5 k0) k0 v278 v279 v280 v281 v282 v283 := by rw [spec_l5Add_L0.eq]; rfl
noncomputable def spec_l5Add_J12.b {α : Type} (N : Nat) (v301 : Int) (v302 : List Int) (k0 : List Int → Option α) : Option α :=
  let x303 := (decide ((0 : Int) < v301))
  bif x303 then
    let x304 := [v301]
    bif decide (v302.length + x304.length ≤ 8796093022208) then
      let x305 := v302 ++ x304
      k0 x305
    else
      none
  else
    k0 v302
theorem spec_l5Add_J12.ex : ∃ f : ((α : Type) → Nat → Int → List Int → (List Int → Option α) → Option α), f = fun α => @spec_l5Add_J12.b α := ⟨_, rfl⟩
noncomputable def spec_l5Add_J12 {α : Type} : Nat → Int → List Int → (List Int → Option α) → Option α := Classical.choose spec_l5Add_J12.ex α
theorem spec_l5Add_J12.eq : @spec_l5Add_J12 = @spec_l5Add_J12.b := funext fun α => congrFun (Classical.choose_spec spec_l5Add_J12.ex) α
/-- loop.example/pinfold/spec.l5Add -/
noncomputable def spec_l5Add.b {α : Type} (N : Nat) (a266 : List Int) (a267 : List Int) (k0 : List Int → Option α) : Option α :=
  let x268 := ((a266.length : Nat) : Int)
  spec_l5Add_J2 N a266 a267 x268
    (fun x275 x276 x277 =>
      spec_l5Add_L0 N N x275 x276 x277 (0 : Int) (0 : Int) []
        (fun x299 x300 =>
          spec_l5Add_J12 N x299 x300
            (fun x306 =>
              k0 x306)))
theorem spec_l5Add.ex : ∃ f : ((α : Type) → Nat → List Int → List Int → (List Int → Option α) → Option α), f = fun α => @spec_l5Add.b α := ⟨_, rfl⟩
noncomputable def spec_l5Add {α : Type} : Nat → List Int → List Int → (List Int → Option α) → Option α := Classical.choose spec_l5Add.ex α
theorem spec_l5Add.eq : @spec_l5Add = @spec_l5Add.b := funext fun α => congrFun (Classical.choose_spec spec_l5Add.ex) α

noncomputable def spec_l5Sub_J8.b {α : Type} (N : Nat) (v359 : List Int) (v360 : List Int) (v361 : Int) (v362 : Int) (v363 : Int) (v364 : List Int) (k0 : List Int → List Int → Int → Int → Int → List Int → Option α) : Option α :=
  let x365 := (decide (v363 < (0 : Int)))
  bif x365 then
    let x366 := (IntKind.i64.wrap (v363 + (65536 : Int)))
    k0 v359 v360 (1 : Int) v362 x366 v364
  else
    k0 v359 v360 v361 v362 v363 v364
theorem spec_l5Sub_J8.ex : ∃ f : ((α : Type) → Nat → List Int → List Int → Int → Int → Int → List Int → (List Int → List Int → Int → Int → Int → List Int → Option α) → Option α), f = fun α => @spec_l5Sub_J8.b α := ⟨_, rfl⟩
noncomputable def spec_l5Sub_J8 {α : Type} : Nat → List Int → List Int → Int → Int → Int → List Int → (List Int → List Int → Int → Int → Int → List Int → Option α) → Option α := Classical.choose spec_l5Sub_J8.ex α
theorem spec_l5Sub_J8.eq : @spec_l5Sub_J8 = @spec_l5Sub_J8.b := funext fun α => congrFun (Classical.choose_spec spec_l5Sub_J8.ex) α
noncomputable def spec_l5Sub_L0r {α : Type} (N : Nat) (next : List Int → List Int → Int → Int → List Int → Option α) (k0 : List Int → Option α) (v348 : List Int) (v349 : List Int) (v350 : Int) (v351 : Int) (v352 : List Int) : Option α :=
  let x353 := ((v348.length : Nat) : Int)
  let x354 := decide (v351 < x353)
  bif x354 then
    bif (decide (v351 < (0 : Int))) then
      none
    else
      match v348[v351.toNat]? with
      | some x355 =>
        spec_l5At N v349 v351
          (fun x356 =>
            let x357 := IntKind.i64.wrap (x355 - x356)
            let x358 := IntKind.i64.wrap (x357 - v350)
            spec_l5Sub_J8 N v348 v349 (0 : Int) v351 x358 v352
              (fun x367 x368 x369 x370 x371 x372 =>
                let x373 := [x371]
                bif decide (x372.length + x373.length ≤ 8796093022208) then
                  let x374 := x372 ++ x373
                  let x375 := (IntKind.i64.wrap (x370 + (1 : Int)))
                  next x367 x368 x369 x375 x374
                else
                  none))
      | none => none
  else
    k0 v352
noncomputable def spec_l5Sub_L0.b {α : Type} (N n : Nat) (v348 : List Int) (v349 : List Int) (v350 : Int) (v351 : Int) (v352 : List Int) (k0 : List Int → Option α) : Option α :=
  Nat.rec (motive := fun _ => List Int → List Int → Int → Int → List Int → Option α) (fun _ _ _ _ _ => none) (fun _ next => spec_l5Sub_L0r N next k0) n v348 v349 v350 v351 v352
theorem spec_l5Sub_L0.ex : ∃ f : ((α : Type) → Nat → Nat → List Int → List Int → Int → Int → List Int → (List Int → Option α) → Option α), f = fun α => @spec_l5Sub_L0.b α := ⟨_, rfl⟩
noncomputable def spec_l5Sub_L0 {α : Type} : Nat → Nat → List Int → List Int → Int → Int → List Int → (List Int → Option α) → Option α := Classical.choose spec_l5Sub_L0.ex α
theorem spec_l5Sub_L0.eq : @spec_l5Sub_L0 = @spec_l5Sub_L0.b := funext fun α => congrFun (Classical.choose_spec spec_l5Sub_L0.ex) α
theorem spec_l5Sub_L0.zero {α : Type} (N : Nat) (v348 : List Int) (v349 : List Int) (v350 : Int) (v351 : Int) (v352 : List Int) (k0 : List Int → Option α) : spec_l5Sub_L0 N 0 v348 v349 v350 v351 v352 k0 = none := by rw [spec_l5Sub_L0.eq]; rfl
theorem spec_l5Sub_L0.succ {α : Type} (N n : Nat) (v348 : List Int) (v349 : List Int) (v350 : Int) (v351 : Int) (v352 : List Int) (k0 : List Int → Option α) : spec_l5Sub_L0 N (n + 1) v348 v349 v350 v351 v352 k0 = spec_l5Sub_L0r N (fun y0 y1 y2 y3 y4 => spec_l5Sub_L0 N n y0 y1 y2 y3 y4 k0) k0 v348 v349 v350 v351 v352 := by rw [spec_l5Sub_L0.eq]; rfl
/-- loop.example/pinfold/spec.l5Sub -/
noncomputable def spec_l5Sub.b {α : Type} (N : Nat) (a346 : List Int) (a347 : List Int) (k0 : List Int → Option α) : Option α :=
  spec_l5Sub_L0 N N a346 a347 (0 : Int) (0 : Int) []
    (fun x376 =>
      spec_l5Trim N x376
        (fun x377 =>
          k0 x377))
theorem spec_l5Sub.ex : ∃ f : ((α : Type) → Nat → List Int → List Int → (List Int → Option α) → Option α), f = fun α => @spec_l5Sub.b α := ⟨_, rfl⟩
noncomputable def spec_l5Sub {α : Type} : Nat → List Int → List Int → (List Int → Option α) → Option α := Classical.choose spec_l5Sub.ex α
theorem spec_l5Sub.eq : @spec_l5Sub = @spec_l5Sub.b := funext fun α => congrFun (Classical.choose_spec spec_l5Sub.ex) α

noncomputable def spec_l5Div_J17.b {α : Type} (N : Nat) (v317 : Int) (v318 : Int) (v319 : Int) (v320 : Int) (v321 : List Int) (v322 : List Int) (v323 : List Int) (v324 : List Int) (k0 : Int → Int → Int → Int → List Int → List Int → List Int → List Int → Option α) : Option α :=
  let x325 := (decide ((65536 : Int) ≤ v320))
  bif x325 then
    k0 v317 v318 v319 (65535 : Int) v321 v322 v323 v324
  else
    k0 v317 v318 v319 v320 v321 v322 v323 v324
theorem spec_l5Div_J17.ex : ∃ f : ((α : Type) → Nat → Int → Int → Int → Int → List Int → List Int → List Int → List Int → (Int → Int → Int → Int → List Int → List Int → List Int → List Int → Option α) → Option α), f = fun α => @spec_l5Div_J17.b α := ⟨_, rfl⟩
noncomputable def spec_l5Div_J17 {α : Type} : Nat → Int → Int → Int → Int → List Int → List Int → List Int → List Int → (Int → Int → Int → Int → List Int → List Int → List Int → List Int → Option α) → Option α := Classical.choose spec_l5Div_J17.ex α
theorem spec_l5Div_J17.eq : @spec_l5Div_J17 = @spec_l5Div_J17.b := funext fun α => congrFun (Classical.choose_spec spec_l5Div_J17.ex) α
noncomputable def spec_l5Div_L2r {α : Type} (N : Nat) (next : Int → Int → Int → Int → List Int → List Int → List Int → List Int → List Int → Option α) (k0 : Int → Int → Int → Int → List Int → List Int → List Int → List Int → List Int → Option α) (v335 : Int) (v336 : Int) (v337 : Int) (v338 : Int) (v339 : List Int) (v340 : List Int) (v341 : List Int) (v342 : List Int) (v343 : List Int) : Option α :=
  spec_l5Cmp N v343 v342
    (fun x344 =>
      let x345 := (decide ((0 : Int) < x344))
      bif x345 then
        spec_l5Sub N v343 v340
          (fun x378 =>
            let x379 := (IntKind.i64.wrap (v338 - (1 : Int)))
            next v335 v336 v337 x379 v339 v340 v341 v342 x378)
      else
        k0 v335 v336 v337 v338 v339 v340 v341 v342 v343)
noncomputable def spec_l5Div_L2.b {α : Type} (N n : Nat) (v335 : Int) (v336 : Int) (v337 : Int) (v338 : Int) (v339 : List Int) (v340 : List Int) (v341 : List Int) (v342 : List Int) (v343 : List Int) (k0 : Int → Int → Int → Int → List Int → List Int → List Int → List Int → List Int → Option α) : Option α :=
  Nat.rec (motive := fun _ => Int → Int → Int → Int → List Int → List Int → List Int → List Int → List Int → Option α) (fun _ _ _ _ _ _ _ _ _ => none) (fun _ next => spec_l5Div_L2r N next k0) n v335 v336 v337 v338 v339 v340 v341 v342 v343
theorem spec_l5Div_L2.ex : ∃ f : ((α : Type) → Nat → Nat → Int → Int → Int → Int → List Int → List Int → List Int → List Int → List Int → (Int → Int → Int → Int → List Int → List Int → List Int → List Int → List Int → Option α) → Option α), f = fun α => @spec_l5Div_L2.b α := ⟨_, rfl⟩
noncomputable def spec_l5Div_L2 {α : Type} : Nat → Nat → Int → Int → Int → Int → List Int → List Int → List Int → List Int → List Int → (Int → Int → Int → Int → List Int → List Int → List Int → List Int → List Int → Option α) → Option α := Classical.choose spec_l5Div_L2.ex α
theorem spec_l5Div_L2.eq : @spec_l5Div_L2 = @spec_l5Div_L2.b := funext fun α => congrFun (Classical.choose_spec spec_l5Div_L2.ex) α
theorem spec_l5Div_L2.zero {α : Type} (N : Nat) (v335 : Int) (v336 : Int) (v337 : Int) (v338 : Int) (v339 : List Int) (v340 : List Int) (v341 : List Int) (v342 : List Int) (v343 : List Int) (k0 : Int → Int → Int → Int → List Int → List Int → List Int → List Int → List Int → Option α) : spec_l5Div_L2 N 0 v335 v336 v337 v338 v339 v340 v341 v342 v343 k0 = none := by rw [spec_l5Div_L2.eq]; rfl
theorem spec_l5Div_L2.succ {α : Type} (N n : Nat) (v335 : Int) (v336 : Int) (v337 : Int) (v338 : Int) (v339 : List Int) (v340 : List Int) (v341 : List Int) (v342 : List Int) (v343 : List Int) (k0 : Int → Int → Int → Int → List Int → List Int → List Int → List Int → List Int → Option α) : spec_l5Div_L2 N (n + 1) v335 v336 v337 v338 v339 v340 v341 v342 v343 k0 = spec_l5Div_L2r N (fun y0 y1 y2 y3 y4 y5 y6 y7 y8 => spec_l5Div_L2 N n y0 y1 y2 y3 y4 y5 y6 y7 y8 k0) k0 v335 v336 v337 v338 v339 v340 v341 v342 v343 := by rw [spec_l5Div_L2.eq]; rfl
noncomputable def spec_l5Div_L0r {α : Type} (N : Nat) (next : Int → Int → Int → List Int → List Int → List Int → List Int → Option α) (k0 : Int → List Int → List Int → Option α) (v239 : Int) (v240 : Int) (v241 : Int) (v242 : List Int) (v243 : List Int) (v244 : List Int) (v245 : List Int) : Option α :=
  let x246 := (decide ((0 : Int) ≤ v241))
  bif x246 then
    spec_l5Shl N v245 (1 : Int)
      (fun x262 =>
        bif (decide (v241 < (0 : Int))) then
          none
        else
          bif decide (v241.toNat < v242.length) then
            match v242[v241.toNat]? with
            | some x263 =>
              let x264 := IntKind.u64.wrap x263
              spec_NatOf N x264
                (fun x265 =>
                  spec_l5Add N x262 x265
                    (fun x307 =>
                      spec_l5Trim N x307
                        (fun x308 =>
                          spec_l5At N x308 v240
                            (fun x309 =>
                              let x310 := (IntKind.i64.wrap (x309 * (65536 : Int)))
                              let x311 := (IntKind.i64.wrap (v240 - (1 : Int)))
                              spec_l5At N x308 x311
                                (fun x312 =>
                                  let x313 := IntKind.i64.wrap (x310 + x312)
                                  let x314 := (IntKind.i64.wrap (v240 - (1 : Int)))
                                  bif (decide (x314 < (0 : Int))) then
                                    none
                                  else
                                    bif decide (x314.toNat < v243.length) then
                                      match v243[x314.toNat]? with
                                      | some x315 =>
                                        bif (decide (x315 = (0 : Int))) then
                                          none
                                        else
                                          let x316 := IntKind.i64.wrap (Int.tdiv x313 x315)
                                          spec_l5Div_J17 N v239 v240 v241 x316 v242 v243 v244 x308
                                            (fun x326 x327 x328 x329 x330 x331 x332 x333 =>
                                              spec_l5Times N x331 x329
                                                (fun x334 =>
                                                  spec_l5Div_L2 N N x326 x327 x328 x329 x330 x331 x332 x333 x334
                                                    (fun x380 x381 x382 x383 x384 x385 x386 x387 x388 =>
                                                      bif (decide (x382 < (0 : Int))) then
                                                        none
                                                      else
                                                        bif decide (x382.toNat < x386.length) then
                                                          match x386[x382.toNat]? with
                                                          | some x389 =>
                                                            let x390 := x386.set x382.toNat x383
                                                            spec_l5Sub N x387 x388
                                                              (fun x391 =>
                                                                let x392 := (IntKind.i64.wrap (x382 - (1 : Int)))
                                                                next x380 x381 x392 x384 x385 x390 x391)
                                                          | none => none
                                                        else
                                                          none)))
                                      | none => none
                                    else
                                      none)))))
            | none => none
          else
            none)
  else
    k0 v239 v244 v245
noncomputable def spec_l5Div_L0.b {α : Type} (N n : Nat) (v239 : Int) (v240 : Int) (v241 : Int) (v242 : List Int) (v243 : List Int) (v244 : List Int) (v245 : List Int) (k0 : Int → List Int → List Int → Option α) : Option α :=
  Nat.rec (motive := fun _ => Int → Int → Int → List Int → List Int → List Int → List Int → Option α) (fun _ _ _ _ _ _ _ => none) (fun _ next => spec_l5Div_L0r N next k0) n v239 v240 v241 v242 v243 v244 v245
theorem spec_l5Div_L0.ex : ∃ f : ((α : Type) → Nat → Nat → Int → Int → Int → List Int → List Int → List Int → List Int → (Int → List Int → List Int → Option α) → Option α), f = fun α => @spec_l5Div_L0.b α := ⟨_, rfl⟩
noncomputable def spec_l5Div_L0 {α : Type} : Nat → Nat → Int → Int → Int → List Int → List Int → List Int → List Int → (Int → List Int → List Int → Option α) → Option α := Classical.choose spec_l5Div_L0.ex α
theorem spec_l5Div_L0.eq : @spec_l5Div_L0 = @spec_l5Div_L0.b := funext fun α => congrFun (Classical.choose_spec spec_l5Div_L0.ex) α
theorem spec_l5Div_L0.zero {α : Type} (N : Nat) (v239 : Int) (v240 : Int) (v241 : Int) (v242 : List Int) (v243 : List Int) (v244 : List Int) (v245 : List Int) (k0 : Int → List Int → List Int → Option α) : spec_l5Div_L0 N 0 v239 v240 v241 v242 v243 v244 v245 k0 = none := by rw [spec_l5Div_L0.eq]; rfl
theorem spec_l5Div_L0.succ {α : Type} (N n : Nat) (v239 : Int) (v240 : Int) (v241 : Int) (v242 : List Int) (v243 : List Int) (v244 : List Int) (v245 : List Int) (k0 : Int → List Int → List Int → Option α) : spec_l5Div_L0 N (n + 1) v239 v240 v241 v242 v243 v244 v245 k0 = spec_l5Div_L0r N (fun y0 y1 y2 y3 y4 y5 y6 => spec_l5Div_L0 N n y0 y1 y2 y3 y4 y5 y6 k0) k0 v239 v240 v241 v242 v243 v244 v245 := by rw [spec_l5Div_L0.eq]; rfl
/-- loop.example/pinfold/spec.l5Div -/
noncomputable def spec_l5Div.b {α : Type} (N : Nat) (a92 : List Int) (a93 : List Int) (k0 : List Int → List Int → Option α) : Option α :=
  spec_l5Cmp N a92 a93
    (fun x116 =>
      let x117 := (decide (x116 < (0 : Int)))
      bif x117 then
        spec_l5Trim N a92
          (fun x118 =>
            k0 [] x118)
      else
        let x119 := ((a93.length : Nat) : Int)
        let x120 := (decide (x119 = (1 : Int)))
        bif x120 then
          match a93[0]? with
          | some x121 =>
            spec_l5DivSmall N a92 x121
              (fun x145 x146 =>
                let x147 := IntKind.u64.wrap x145
                spec_NatOf N x147
                  (fun x158 =>
                    k0 x146 x158))
          | none => none
        else
          let x159 := ((a93.length : Nat) : Int)
          let x160 := (IntKind.i64.wrap (x159 - (1 : Int)))
          bif (decide (x160 < (0 : Int))) then
            none
          else
            match a93[x160.toNat]? with
            | some x161 =>
              let x162 := (IntKind.i64.wrap (x161 + (1 : Int)))
              bif (decide (x162 = (0 : Int))) then
                none
              else
                let x163 := (IntKind.i64.wrap (Int.tdiv (65536 : Int) x162))
                spec_l5Times N a92 x163
                  (fun x214 =>
                    spec_l5Times N a93 x163
                      (fun x215 =>
                        let x216 := ((x215.length : Nat) : Int)
                        let x217 := ((x214.length : Nat) : Int)
                        let x218 := IntKind.i64.wrap (x217 - x216)
                        let x219 := (IntKind.i64.wrap (x218 + (1 : Int)))
                        bif (decide ((0 : Int) ≤ x219)) then
                          bif decide (x219 ≤ x219) then
                            bif (decide (x219 ≤ ((8796093022208 : Nat) : Int))) then
                              let x220 := (List.replicate x219.toNat (0 : Int))
                              let x221 := ((x214.length : Nat) : Int)
                              let x222 := IntKind.i64.wrap (x221 - x216)
                              let x223 := (IntKind.i64.wrap (x222 + (1 : Int)))
                              spec_l5Top N x214 x223
                                (fun x236 =>
                                  let x237 := ((x214.length : Nat) : Int)
                                  let x238 := IntKind.i64.wrap (x237 - x216)
                                  spec_l5Div_L0 N N x163 x216 x238 x214 x215 x220 x236
                                    (fun x393 x394 x395 =>
                                      spec_l5DivSmall N x395 x393
                                        (fun _ x397 =>
                                          spec_l5Trim N x394
                                            (fun x398 =>
                                              k0 x398 x397))))
                            else
                              none
                          else
                            none
                        else
                          none))
            | none => none)
theorem spec_l5Div.ex : ∃ f : ((α : Type) → Nat → List Int → List Int → (List Int → List Int → Option α) → Option α), f = fun α => @spec_l5Div.b α := ⟨_, rfl⟩
noncomputable def spec_l5Div {α : Type} : Nat → List Int → List Int → (List Int → List Int → Option α) → Option α := Classical.choose spec_l5Div.ex α
theorem spec_l5Div.eq : @spec_l5Div = @spec_l5Div.b := funext fun α => congrFun (Classical.choose_spec spec_l5Div.ex) α

noncomputable def spec_l5Gcd_L0r {α : Type} (N : Nat) (next : List Int → List Int → Option α) (k0 : List Int → Option α) (v88 : List Int) (v89 : List Int) : Option α :=
  let x90 := ((v89.length : Nat) : Int)
  let x91 := (decide ((0 : Int) < x90))
  bif x91 then
    spec_l5Div N v88 v89
      (fun _ x400 =>
        next v89 x400)
  else
    k0 v88
noncomputable def spec_l5Gcd_L0.b {α : Type} (N n : Nat) (v88 : List Int) (v89 : List Int) (k0 : List Int → Option α) : Option α :=
  Nat.rec (motive := fun _ => List Int → List Int → Option α) (fun _ _ => none) (fun _ next => spec_l5Gcd_L0r N next k0) n v88 v89
theorem spec_l5Gcd_L0.ex : ∃ f : ((α : Type) → Nat → Nat → List Int → List Int → (List Int → Option α) → Option α), f = fun α => @spec_l5Gcd_L0.b α := ⟨_, rfl⟩
noncomputable def spec_l5Gcd_L0 {α : Type} : Nat → Nat → List Int → List Int → (List Int → Option α) → Option α := Classical.choose spec_l5Gcd_L0.ex α
theorem spec_l5Gcd_L0.eq : @spec_l5Gcd_L0 = @spec_l5Gcd_L0.b := funext fun α => congrFun (Classical.choose_spec spec_l5Gcd_L0.ex) α
theorem spec_l5Gcd_L0.zero {α : Type} (N : Nat) (v88 : List Int) (v89 : List Int) (k0 : List Int → Option α) : spec_l5Gcd_L0 N 0 v88 v89 k0 = none := by rw [spec_l5Gcd_L0.eq]; rfl
theorem spec_l5Gcd_L0.succ {α : Type} (N n : Nat) (v88 : List Int) (v89 : List Int) (k0 : List Int → Option α) : spec_l5Gcd_L0 N (n + 1) v88 v89 k0 = spec_l5Gcd_L0r N (fun y0 y1 => spec_l5Gcd_L0 N n y0 y1 k0) k0 v88 v89 := by rw [spec_l5Gcd_L0.eq]; rfl
/-- loop.example/pinfold/spec.l5Gcd -/
noncomputable def spec_l5Gcd.b {α : Type} (N : Nat) (a63 : List Int) (a64 : List Int) (k0 : List Int → Option α) : Option α :=
  spec_l5Trim N a63
    (fun x86 =>
      spec_l5Trim N a64
        (fun x87 =>
          spec_l5Gcd_L0 N N x86 x87
            (fun x401 =>
              k0 x401)))
theorem spec_l5Gcd.ex : ∃ f : ((α : Type) → Nat → List Int → List Int → (List Int → Option α) → Option α), f = fun α => @spec_l5Gcd.b α := ⟨_, rfl⟩
noncomputable def spec_l5Gcd {α : Type} : Nat → List Int → List Int → (List Int → Option α) → Option α := Classical.choose spec_l5Gcd.ex α
theorem spec_l5Gcd.eq : @spec_l5Gcd = @spec_l5Gcd.b := funext fun α => congrFun (Classical.choose_spec spec_l5Gcd.ex) α

/-- loop.example/pinfold/spec.l6One -/
noncomputable def spec_l6One.b {α : Type} (N : Nat) (a403 : List Int) (k0 : Bool → Option α) : Option α :=
  let x404 := ((a403.length : Nat) : Int)
  let x405 := (decide (x404 = (1 : Int)))
  bif x405 then
    match a403[0]? with
    | some x406 =>
      let x407 := (decide (x406 = (1 : Int)))
      k0 x407
    | none => none
  else
    k0 false
theorem spec_l6One.ex : ∃ f : ((α : Type) → Nat → List Int → (Bool → Option α) → Option α), f = fun α => @spec_l6One.b α := ⟨_, rfl⟩
noncomputable def spec_l6One {α : Type} : Nat → List Int → (Bool → Option α) → Option α := Classical.choose spec_l6One.ex α
theorem spec_l6One.eq : @spec_l6One = @spec_l6One.b := funext fun α => congrFun (Classical.choose_spec spec_l6One.ex) α

/-- loop.example/pinfold/spec.FracOk -/
noncomputable def spec_FracOk.b {α : Type} (N : Nat) (a34 : Bool × (List Int) × (List Int) × Unit) (k0 : Bool → Option α) : Option α :=
  spec_NatOk N a34.2.1
    (fun x55 =>
      let x56 := !x55
      bif x56 then
        k0 false
      else
        spec_NatOk N a34.2.2.1
          (fun x57 =>
            let x58 := !x57
            bif x58 then
              k0 false
            else
              let x59 := ((a34.2.2.1.length : Nat) : Int)
              let x60 := (decide (x59 = (0 : Int)))
              bif x60 then
                k0 false
              else
                let x61 := ((a34.2.1.length : Nat) : Int)
                let x62 := (decide (x61 = (0 : Int)))
                bif x62 then
                  bif a34.1 then
                    k0 false
                  else
                    spec_l5Gcd N a34.2.1 a34.2.2.1
                      (fun x402 =>
                        spec_l6One N x402
                          (fun x408 =>
                            k0 x408))
                else
                  spec_l5Gcd N a34.2.1 a34.2.2.1
                    (fun x409 =>
                      spec_l6One N x409
                        (fun x410 =>
                          k0 x410))))
theorem spec_FracOk.ex : ∃ f : ((α : Type) → Nat → (Bool × (List Int) × (List Int) × Unit) → (Bool → Option α) → Option α), f = fun α => @spec_FracOk.b α := ⟨_, rfl⟩
noncomputable def spec_FracOk {α : Type} : Nat → (Bool × (List Int) × (List Int) × Unit) → (Bool → Option α) → Option α := Classical.choose spec_FracOk.ex α
theorem spec_FracOk.eq : @spec_FracOk = @spec_FracOk.b := funext fun α => congrFun (Classical.choose_spec spec_FracOk.ex) α

/-- loop.example/pinfold/impl.in -/
noncomputable def impl_in.b {α : Type} (N : Nat) (a441 : Int) (a442 : Int) (a443 : Int) (k0 : Bool → Option α) : Option α :=
  let x444 := decide (a442 ≤ a441)
  bif x444 then
    let x445 := decide (a441 ≤ a443)
    k0 x445
  else
    k0 false
theorem impl_in.ex : ∃ f : ((α : Type) → Nat → Int → Int → Int → (Bool → Option α) → Option α), f = fun α => @impl_in.b α := ⟨_, rfl⟩
noncomputable def impl_in {α : Type} : Nat → Int → Int → Int → (Bool → Option α) → Option α := Classical.choose impl_in.ex α
theorem impl_in.eq : @impl_in = @impl_in.b := funext fun α => congrFun (Classical.choose_spec impl_in.ex) α

/-- loop.example/pinfold/impl.NatOk$1 -/
noncomputable def impl_NatOk_1.b {α : Type} (N : Nat) (a440 : Int) (k0 : Bool → Option α) : Option α :=
  impl_in N a440 (0 : Int) (65535 : Int)
    (fun x446 =>
      let x447 := !x446
      k0 x447)
theorem impl_NatOk_1.ex : ∃ f : ((α : Type) → Nat → Int → (Bool → Option α) → Option α), f = fun α => @impl_NatOk_1.b α := ⟨_, rfl⟩
noncomputable def impl_NatOk_1 {α : Type} : Nat → Int → (Bool → Option α) → Option α := Classical.choose impl_NatOk_1.ex α
theorem impl_NatOk_1.eq : @impl_NatOk_1 = @impl_NatOk_1.b := funext fun α => congrFun (Classical.choose_spec impl_NatOk_1.ex) α

noncomputable def slices_IndexFunc_int_int__impl_NatOk_1_L0r {α : Type} (N : Nat) (next : List Int → Int → Int → Option α) (k0 : Int → Option α) (k1 : Option α) (v435 : List Int) (v436 : Int) (v437 : Int) : Option α :=
  let x438 := decide (v437 < v436)
  bif x438 then
    bif (decide (v437 < (0 : Int))) then
      none
    else
      match v435[v437.toNat]? with
      | some x439 =>
        impl_NatOk_1 N x439
          (fun x448 =>
            bif x448 then
              k0 v437
            else
              let x449 := (IntKind.i64.wrap (v437 + (1 : Int)))
              next v435 v436 x449)
      | none => none
  else
    k1
noncomputable def slices_IndexFunc_int_int__impl_NatOk_1_L0.b {α : Type} (N n : Nat) (v435 : List Int) (v436 : Int) (v437 : Int) (k0 : Int → Option α) (k1 : Option α) : Option α :=
  Nat.rec (motive := fun _ => List Int → Int → Int → Option α) (fun _ _ _ => none) (fun _ next => slices_IndexFunc_int_int__impl_NatOk_1_L0r N next k0 k1) n v435 v436 v437
theorem slices_IndexFunc_int_int__impl_NatOk_1_L0.ex : ∃ f : ((α : Type) → Nat → Nat → List Int → Int → Int → (Int → Option α) → (Option α) → Option α), f = fun α => @slices_IndexFunc_int_int__impl_NatOk_1_L0.b α := ⟨_, rfl⟩
noncomputable def slices_IndexFunc_int_int__impl_NatOk_1_L0 {α : Type} : Nat → Nat → List Int → Int → Int → (Int → Option α) → (Option α) → Option α := Classical.choose slices_IndexFunc_int_int__impl_NatOk_1_L0.ex α
theorem slices_IndexFunc_int_int__impl_NatOk_1_L0.eq : @slices_IndexFunc_int_int__impl_NatOk_1_L0 = @slices_IndexFunc_int_int__impl_NatOk_1_L0.b := funext fun α => congrFun (Classical.choose_spec slices_IndexFunc_int_int__impl_NatOk_1_L0.ex) α
theorem slices_IndexFunc_int_int__impl_NatOk_1_L0.zero {α : Type} (N : Nat) (v435 : List Int) (v436 : Int) (v437 : Int) (k0 : Int → Option α) (k1 : Option α) : slices_IndexFunc_int_int__impl_NatOk_1_L0 N 0 v435 v436 v437 k0 k1 = none := by rw [slices_IndexFunc_int_int__impl_NatOk_1_L0.eq]; rfl
theorem slices_IndexFunc_int_int__impl_NatOk_1_L0.succ {α : Type} (N n : Nat) (v435 : List Int) (v436 : Int) (v437 : Int) (k0 : Int → Option α) (k1 : Option α) : slices_IndexFunc_int_int__impl_NatOk_1_L0 N (n + 1) v435 v436 v437 k0 k1 = slices_IndexFunc_int_int__impl_NatOk_1_L0r N (fun y0 y1 y2 => slices_IndexFunc_int_int__impl_NatOk_1_L0 N n y0 y1 y2 k0 k1) k0 k1 v435 v436 v437 := by rw [slices_IndexFunc_int_int__impl_NatOk_1_L0.eq]; rfl
/-- slices.IndexFunc[[]int,int] -/
noncomputable def slices_IndexFunc_int_int__impl_NatOk_1.b {α : Type} (N : Nat) (a433 : List Int) (k0 : Int → Option α) : Option α :=
  let x434 := ((a433.length : Nat) : Int)
  slices_IndexFunc_int_int__impl_NatOk_1_L0 N N a433 x434 (0 : Int)
    (fun x450 =>
      k0 x450)
    (
      k0 (-1 : Int))
theorem slices_IndexFunc_int_int__impl_NatOk_1.ex : ∃ f : ((α : Type) → Nat → List Int → (Int → Option α) → Option α), f = fun α => @slices_IndexFunc_int_int__impl_NatOk_1.b α := ⟨_, rfl⟩
noncomputable def slices_IndexFunc_int_int__impl_NatOk_1 {α : Type} : Nat → List Int → (Int → Option α) → Option α := Classical.choose slices_IndexFunc_int_int__impl_NatOk_1.ex α
theorem slices_IndexFunc_int_int__impl_NatOk_1.eq : @slices_IndexFunc_int_int__impl_NatOk_1 = @slices_IndexFunc_int_int__impl_NatOk_1.b := funext fun α => congrFun (Classical.choose_spec slices_IndexFunc_int_int__impl_NatOk_1.ex) α

/-- slices.ContainsFunc[[]int,int] -/
noncomputable def slices_ContainsFunc_int_int__impl_NatOk_1.b {α : Type} (N : Nat) (a432 : List Int) (k0 : Bool → Option α) : Option α :=
  slices_IndexFunc_int_int__impl_NatOk_1 N a432
    (fun x451 =>
      let x452 := (decide ((0 : Int) ≤ x451))
      k0 x452)
theorem slices_ContainsFunc_int_int__impl_NatOk_1.ex : ∃ f : ((α : Type) → Nat → List Int → (Bool → Option α) → Option α), f = fun α => @slices_ContainsFunc_int_int__impl_NatOk_1.b α := ⟨_, rfl⟩
noncomputable def slices_ContainsFunc_int_int__impl_NatOk_1 {α : Type} : Nat → List Int → (Bool → Option α) → Option α := Classical.choose slices_ContainsFunc_int_int__impl_NatOk_1.ex α
theorem slices_ContainsFunc_int_int__impl_NatOk_1.eq : @slices_ContainsFunc_int_int__impl_NatOk_1 = @slices_ContainsFunc_int_int__impl_NatOk_1.b := funext fun α => congrFun (Classical.choose_spec slices_ContainsFunc_int_int__impl_NatOk_1.ex) α

/-- loop.example/pinfold/impl.NatOk -/
noncomputable def impl_NatOk.b {α : Type} (N : Nat) (a427 : List Int) (k0 : Bool → Option α) : Option α :=
  let x428 := ((a427.length : Nat) : Int)
  let x429 := (decide (x428 ≤ (256 : Int)))
  bif x429 then
    let x430 := ((a427.length : Nat) : Int)
    let x431 := (decide (x430 = (0 : Int)))
    bif x431 then
      slices_ContainsFunc_int_int__impl_NatOk_1 N a427
        (fun x453 =>
          let x454 := !x453
          k0 x454)
    else
      let x455 := ((a427.length : Nat) : Int)
      let x456 := (IntKind.i64.wrap (x455 - (1 : Int)))
      bif (decide (x456 < (0 : Int))) then
        none
      else
        match a427[x456.toNat]? with
        | some x457 =>
          let x458 := (!(decide (x457 = (0 : Int))))
          bif x458 then
            slices_ContainsFunc_int_int__impl_NatOk_1 N a427
              (fun x459 =>
                let x460 := !x459
                k0 x460)
          else
            k0 false
        | none => none
  else
    k0 false
theorem impl_NatOk.ex : ∃ f : ((α : Type) → Nat → List Int → (Bool → Option α) → Option α), f = fun α => @impl_NatOk.b α := ⟨_, rfl⟩
noncomputable def impl_NatOk {α : Type} : Nat → List Int → (Bool → Option α) → Option α := Classical.choose impl_NatOk.ex α
theorem impl_NatOk.eq : @impl_NatOk = @impl_NatOk.b := funext fun α => congrFun (Classical.choose_spec impl_NatOk.ex) α

/-- loop.example/pinfold/impl.nats$1 -/
noncomputable def impl_nats_1.b {α : Type} (N : Nat) (a426 : List Int) (k0 : Bool → Option α) : Option α :=
  impl_NatOk N a426
    (fun x461 =>
      let x462 := !x461
      k0 x462)
theorem impl_nats_1.ex : ∃ f : ((α : Type) → Nat → List Int → (Bool → Option α) → Option α), f = fun α => @impl_nats_1.b α := ⟨_, rfl⟩
noncomputable def impl_nats_1 {α : Type} : Nat → List Int → (Bool → Option α) → Option α := Classical.choose impl_nats_1.ex α
theorem impl_nats_1.eq : @impl_nats_1 = @impl_nats_1.b := funext fun α => congrFun (Classical.choose_spec impl_nats_1.ex) α

noncomputable def slices_IndexFunc_int_int__impl_nats_1_L0r {α : Type} (N : Nat) (next : List (List Int) → Int → Int → Option α) (k0 : Int → Option α) (k1 : Option α) (v421 : List (List Int)) (v422 : Int) (v423 : Int) : Option α :=
  let x424 := decide (v423 < v422)
  bif x424 then
    bif (decide (v423 < (0 : Int))) then
      none
    else
      match v421[v423.toNat]? with
      | some x425 =>
        impl_nats_1 N x425
          (fun x463 =>
            bif x463 then
              k0 v423
            else
              let x464 := (IntKind.i64.wrap (v423 + (1 : Int)))
              next v421 v422 x464)
      | none => none
  else
    k1
noncomputable def slices_IndexFunc_int_int__impl_nats_1_L0.b {α : Type} (N n : Nat) (v421 : List (List Int)) (v422 : Int) (v423 : Int) (k0 : Int → Option α) (k1 : Option α) : Option α :=
  Nat.rec (motive := fun _ => List (List Int) → Int → Int → Option α) (fun _ _ _ => none) (fun _ next => slices_IndexFunc_int_int__impl_nats_1_L0r N next k0 k1) n v421 v422 v423
theorem slices_IndexFunc_int_int__impl_nats_1_L0.ex : ∃ f : ((α : Type) → Nat → Nat → List (List Int) → Int → Int → (Int → Option α) → (Option α) → Option α), f = fun α => @slices_IndexFunc_int_int__impl_nats_1_L0.b α := ⟨_, rfl⟩
noncomputable def slices_IndexFunc_int_int__impl_nats_1_L0 {α : Type} : Nat → Nat → List (List Int) → Int → Int → (Int → Option α) → (Option α) → Option α := Classical.choose slices_IndexFunc_int_int__impl_nats_1_L0.ex α
theorem slices_IndexFunc_int_int__impl_nats_1_L0.eq : @slices_IndexFunc_int_int__impl_nats_1_L0 = @slices_IndexFunc_int_int__impl_nats_1_L0.b := funext fun α => congrFun (Classical.choose_spec slices_IndexFunc_int_int__impl_nats_1_L0.ex) α
theorem slices_IndexFunc_int_int__impl_nats_1_L0.zero {α : Type} (N : Nat) (v421 : List (List Int)) (v422 : Int) (v423 : Int) (k0 : Int → Option α) (k1 : Option α) : slices_IndexFunc_int_int__impl_nats_1_L0 N 0 v421 v422 v423 k0 k1 = none := by rw [slices_IndexFunc_int_int__impl_nats_1_L0.eq]; rfl
theorem slices_IndexFunc_int_int__impl_nats_1_L0.succ {α : Type} (N n : Nat) (v421 : List (List Int)) (v422 : Int) (v423 : Int) (k0 : Int → Option α) (k1 : Option α) : slices_IndexFunc_int_int__impl_nats_1_L0 N (n + 1) v421 v422 v423 k0 k1 = slices_IndexFunc_int_int__impl_nats_1_L0r N (fun y0 y1 y2 => slices_IndexFunc_int_int__impl_nats_1_L0 N n y0 y1 y2 k0 k1) k0 k1 v421 v422 v423 := by rw [slices_IndexFunc_int_int__impl_nats_1_L0.eq]; rfl
/-- slices.IndexFunc[[][]int,[]int] -/
noncomputable def slices_IndexFunc_int_int__impl_nats_1.b {α : Type} (N : Nat) (a419 : List (List Int)) (k0 : Int → Option α) : Option α :=
  let x420 := ((a419.length : Nat) : Int)
  slices_IndexFunc_int_int__impl_nats_1_L0 N N a419 x420 (0 : Int)
    (fun x465 =>
      k0 x465)
    (
      k0 (-1 : Int))
theorem slices_IndexFunc_int_int__impl_nats_1.ex : ∃ f : ((α : Type) → Nat → List (List Int) → (Int → Option α) → Option α), f = fun α => @slices_IndexFunc_int_int__impl_nats_1.b α := ⟨_, rfl⟩
noncomputable def slices_IndexFunc_int_int__impl_nats_1 {α : Type} : Nat → List (List Int) → (Int → Option α) → Option α := Classical.choose slices_IndexFunc_int_int__impl_nats_1.ex α
theorem slices_IndexFunc_int_int__impl_nats_1.eq : @slices_IndexFunc_int_int__impl_nats_1 = @slices_IndexFunc_int_int__impl_nats_1.b := funext fun α => congrFun (Classical.choose_spec slices_IndexFunc_int_int__impl_nats_1.ex) α

/-- slices.ContainsFunc[[][]int,[]int] -/
noncomputable def slices_ContainsFunc_int_int__impl_nats_1.b {α : Type} (N : Nat) (a418 : List (List Int)) (k0 : Bool → Option α) : Option α :=
  slices_IndexFunc_int_int__impl_nats_1 N a418
    (fun x466 =>
      let x467 := (decide ((0 : Int) ≤ x466))
      k0 x467)
theorem slices_ContainsFunc_int_int__impl_nats_1.ex : ∃ f : ((α : Type) → Nat → List (List Int) → (Bool → Option α) → Option α), f = fun α => @slices_ContainsFunc_int_int__impl_nats_1.b α := ⟨_, rfl⟩
noncomputable def slices_ContainsFunc_int_int__impl_nats_1 {α : Type} : Nat → List (List Int) → (Bool → Option α) → Option α := Classical.choose slices_ContainsFunc_int_int__impl_nats_1.ex α
theorem slices_ContainsFunc_int_int__impl_nats_1.eq : @slices_ContainsFunc_int_int__impl_nats_1 = @slices_ContainsFunc_int_int__impl_nats_1.b := funext fun α => congrFun (Classical.choose_spec slices_ContainsFunc_int_int__impl_nats_1.ex) α

/-- loop.example/pinfold/impl.nats -/
noncomputable def impl_nats.b {α : Type} (N : Nat) (a417 : List (List Int)) (k0 : Bool → Option α) : Option α :=
  slices_ContainsFunc_int_int__impl_nats_1 N a417
    (fun x468 =>
      let x469 := !x468
      k0 x469)
theorem impl_nats.ex : ∃ f : ((α : Type) → Nat → List (List Int) → (Bool → Option α) → Option α), f = fun α => @impl_nats.b α := ⟨_, rfl⟩
noncomputable def impl_nats {α : Type} : Nat → List (List Int) → (Bool → Option α) → Option α := Classical.choose impl_nats.ex α
theorem impl_nats.eq : @impl_nats = @impl_nats.b := funext fun α => congrFun (Classical.choose_spec impl_nats.ex) α

noncomputable def impl_natCmp_L0r {α : Type} (N : Nat) (next : List Int → List Int → Int → Option α) (k0 : Int → Option α) (k1 : Option α) (v564 : List Int) (v565 : List Int) (v566 : Int) : Option α :=
  let x567 := (decide ((0 : Int) ≤ v566))
  bif x567 then
    bif (decide (v566 < (0 : Int))) then
      none
    else
      match v564[v566.toNat]? with
      | some x568 =>
        bif (decide (v566 < (0 : Int))) then
          none
        else
          match v565[v566.toNat]? with
          | some x569 =>
            let x570 := !(decide (x568 = x569))
            bif x570 then
              bif (decide (v566 < (0 : Int))) then
                none
              else
                match v564[v566.toNat]? with
                | some x571 =>
                  bif (decide (v566 < (0 : Int))) then
                    none
                  else
                    match v565[v566.toNat]? with
                    | some x572 =>
                      let x573 := IntKind.i64.wrap (x571 - x572)
                      let x574 := (minI (1 : Int) x573)
                      let x575 := (maxI (-1 : Int) x574)
                      k0 x575
                    | none => none
                | none => none
            else
              let x576 := (IntKind.i64.wrap (v566 - (1 : Int)))
              next v564 v565 x576
          | none => none
      | none => none
  else
    k1
noncomputable def impl_natCmp_L0.b {α : Type} (N n : Nat) (v564 : List Int) (v565 : List Int) (v566 : Int) (k0 : Int → Option α) (k1 : Option α) : Option α :=
  Nat.rec (motive := fun _ => List Int → List Int → Int → Option α) (fun _ _ _ => none) (fun _ next => impl_natCmp_L0r N next k0 k1) n v564 v565 v566
theorem impl_natCmp_L0.ex : ∃ f : ((α : Type) → Nat → Nat → List Int → List Int → Int → (Int → Option α) → (Option α) → Option α), f = fun α => @impl_natCmp_L0.b α := ⟨_, rfl⟩
noncomputable def impl_natCmp_L0 {α : Type} : Nat → Nat → List Int → List Int → Int → (Int → Option α) → (Option α) → Option α := Classical.choose impl_natCmp_L0.ex α
theorem impl_natCmp_L0.eq : @impl_natCmp_L0 = @impl_natCmp_L0.b := funext fun α => congrFun (Classical.choose_spec impl_natCmp_L0.ex) α
theorem impl_natCmp_L0.zero {α : Type} (N : Nat) (v564 : List Int) (v565 : List Int) (v566 : Int) (k0 : Int → Option α) (k1 : Option α) : impl_natCmp_L0 N 0 v564 v565 v566 k0 k1 = none := by rw [impl_natCmp_L0.eq]; rfl
theorem impl_natCmp_L0.succ {α : Type} (N n : Nat) (v564 : List Int) (v565 : List Int) (v566 : Int) (k0 : Int → Option α) (k1 : Option α) : impl_natCmp_L0 N (n + 1) v564 v565 v566 k0 k1 = impl_natCmp_L0r N (fun y0 y1 y2 => impl_natCmp_L0 N n y0 y1 y2 k0 k1) k0 k1 v564 v565 v566 := by rw [impl_natCmp_L0.eq]; rfl
/-- loop.example/pinfold/impl.natCmp -/
noncomputable def impl_natCmp.b {α : Type} (N : Nat) (a552 : List Int) (a553 : List Int) (k0 : Int → Option α) : Option α :=
  let x554 := ((a552.length : Nat) : Int)
  let x555 := ((a553.length : Nat) : Int)
  let x556 := !(decide (x554 = x555))
  bif x556 then
    let x557 := ((a552.length : Nat) : Int)
    let x558 := ((a553.length : Nat) : Int)
    let x559 := IntKind.i64.wrap (x557 - x558)
    let x560 := (minI (1 : Int) x559)
    let x561 := (maxI (-1 : Int) x560)
    k0 x561
  else
    let x562 := ((a552.length : Nat) : Int)
    let x563 := (IntKind.i64.wrap (x562 - (1 : Int)))
    impl_natCmp_L0 N N a552 a553 x563
      (fun x577 =>
        k0 x577)
      (
        k0 (0 : Int))
theorem impl_natCmp.ex : ∃ f : ((α : Type) → Nat → List Int → List Int → (Int → Option α) → Option α), f = fun α => @impl_natCmp.b α := ⟨_, rfl⟩
noncomputable def impl_natCmp {α : Type} : Nat → List Int → List Int → (Int → Option α) → Option α := Classical.choose impl_natCmp.ex α
theorem impl_natCmp.eq : @impl_natCmp = @impl_natCmp.b := funext fun α => congrFun (Classical.choose_spec impl_natCmp.ex) α

noncomputable def impl_trim_L0r {α : Type} (N : Nat) (next : List Int → Option α) (k0 : List Int → Option α) (v605 : List Int) : Option α :=
  let x606 := ((v605.length : Nat) : Int)
  let x607 := (decide ((0 : Int) < x606))
  bif x607 then
    let x608 := ((v605.length : Nat) : Int)
    let x609 := (IntKind.i64.wrap (x608 - (1 : Int)))
    bif (decide (x609 < (0 : Int))) then
      none
    else
      match v605[x609.toNat]? with
      | some x610 =>
        let x611 := (decide (x610 = (0 : Int)))
        bif x611 then
          let x612 := ((v605.length : Nat) : Int)
          let x613 := (IntKind.i64.wrap (x612 - (1 : Int)))
          bif (decide ((0 : Int) ≤ x613)) then
            bif (decide (x613 ≤ ((v605.length : Nat) : Int))) then
              let x614 := v605.take x613.toNat
              next x614
            else
              none
          else
            none
        else
          k0 v605
      | none => none
  else
    k0 v605
noncomputable def impl_trim_L0.b {α : Type} (N n : Nat) (v605 : List Int) (k0 : List Int → Option α) : Option α :=
  Nat.rec (motive := fun _ => List Int → Option α) (fun _ => none) (fun _ next => impl_trim_L0r N next k0) n v605
theorem impl_trim_L0.ex : ∃ f : ((α : Type) → Nat → Nat → List Int → (List Int → Option α) → Option α), f = fun α => @impl_trim_L0.b α := ⟨_, rfl⟩
noncomputable def impl_trim_L0 {α : Type} : Nat → Nat → List Int → (List Int → Option α) → Option α := Classical.choose impl_trim_L0.ex α
theorem impl_trim_L0.eq : @impl_trim_L0 = @impl_trim_L0.b := funext fun α => congrFun (Classical.choose_spec impl_trim_L0.ex) α
theorem impl_trim_L0.zero {α : Type} (N : Nat) (v605 : List Int) (k0 : List Int → Option α) : impl_trim_L0 N 0 v605 k0 = none := by rw [impl_trim_L0.eq]; rfl
theorem impl_trim_L0.succ {α : Type} (N n : Nat) (v605 : List Int) (k0 : List Int → Option α) : impl_trim_L0 N (n + 1) v605 k0 = impl_trim_L0r N (fun y0 => impl_trim_L0 N n y0 k0) k0 v605 := by rw [impl_trim_L0.eq]; rfl
/-- loop.example/pinfold/impl.trim -/
noncomputable def impl_trim.b {α : Type} (N : Nat) (a604 : List Int) (k0 : List Int → Option α) : Option α :=
  impl_trim_L0 N N a604
    (fun x615 =>
      k0 x615)
theorem impl_trim.ex : ∃ f : ((α : Type) → Nat → List Int → (List Int → Option α) → Option α), f = fun α => @impl_trim.b α := ⟨_, rfl⟩
noncomputable def impl_trim {α : Type} : Nat → List Int → (List Int → Option α) → Option α := Classical.choose impl_trim.ex α
theorem impl_trim.eq : @impl_trim = @impl_trim.b := funext fun α => congrFun (Classical.choose_spec impl_trim.ex) α

noncomputable def math_bits_Len64_J1.b {α : Type} (N : Nat) (v625 : Int) (v626 : Int) (k0 : Int → Int → Option α) : Option α :=
  let x627 := (decide ((4294967296 : Int) ≤ v625))
  bif x627 then
    let x628 := (shrI .u64 v625 (32 : Int))
    k0 x628 (32 : Int)
  else
    k0 v625 v626
theorem math_bits_Len64_J1.ex : ∃ f : ((α : Type) → Nat → Int → Int → (Int → Int → Option α) → Option α), f = fun α => @math_bits_Len64_J1.b α := ⟨_, rfl⟩
noncomputable def math_bits_Len64_J1 {α : Type} : Nat → Int → Int → (Int → Int → Option α) → Option α := Classical.choose math_bits_Len64_J1.ex α
theorem math_bits_Len64_J1.eq : @math_bits_Len64_J1 = @math_bits_Len64_J1.b := funext fun α => congrFun (Classical.choose_spec math_bits_Len64_J1.ex) α
noncomputable def math_bits_Len64_J4.b {α : Type} (N : Nat) (v631 : Int) (v632 : Int) (k0 : Int → Int → Option α) : Option α :=
  let x633 := (decide ((65536 : Int) ≤ v631))
  bif x633 then
    let x634 := (shrI .u64 v631 (16 : Int))
    let x635 := (IntKind.i64.wrap (v632 + (16 : Int)))
    k0 x634 x635
  else
    k0 v631 v632
theorem math_bits_Len64_J4.ex : ∃ f : ((α : Type) → Nat → Int → Int → (Int → Int → Option α) → Option α), f = fun α => @math_bits_Len64_J4.b α := ⟨_, rfl⟩
noncomputable def math_bits_Len64_J4 {α : Type} : Nat → Int → Int → (Int → Int → Option α) → Option α := Classical.choose math_bits_Len64_J4.ex α
theorem math_bits_Len64_J4.eq : @math_bits_Len64_J4 = @math_bits_Len64_J4.b := funext fun α => congrFun (Classical.choose_spec math_bits_Len64_J4.ex) α
noncomputable def math_bits_Len64_J7.b {α : Type} (N : Nat) (v638 : Int) (v639 : Int) (k0 : Int → Int → Option α) : Option α :=
  let x640 := (decide ((256 : Int) ≤ v638))
  bif x640 then
    let x641 := (shrI .u64 v638 (8 : Int))
    let x642 := (IntKind.i64.wrap (v639 + (8 : Int)))
    k0 x641 x642
  else
    k0 v638 v639
theorem math_bits_Len64_J7.ex : ∃ f : ((α : Type) → Nat → Int → Int → (Int → Int → Option α) → Option α), f = fun α => @math_bits_Len64_J7.b α := ⟨_, rfl⟩
noncomputable def math_bits_Len64_J7 {α : Type} : Nat → Int → Int → (Int → Int → Option α) → Option α := Classical.choose math_bits_Len64_J7.ex α
theorem math_bits_Len64_J7.eq : @math_bits_Len64_J7 = @math_bits_Len64_J7.b := funext fun α => congrFun (Classical.choose_spec math_bits_Len64_J7.ex) α
/-- math/bits.Len64 -/
noncomputable def math_bits_Len64.b {α : Type} (N : Nat) (a624 : Int) (k0 : Int → Option α) : Option α :=
  math_bits_Len64_J1 N a624 (0 : Int)
    (fun x629 x630 =>
      math_bits_Len64_J4 N x629 x630
        (fun x636 x637 =>
          math_bits_Len64_J7 N x636 x637
            (fun x643 x644 =>
              let x645 := IntKind.u8.wrap x643
              bif (decide (x645 < (0 : Int))) then
                none
              else
                match ((⟨#[0, 1, 2, 2, 3, 3, 3, 3, 4, 4, 4, 4, 4, 4, 4, 4, 5, 5, 5, 5, 5, 5, 5, 5, 5, 5, 5, 5, 5, 5, 5, 5, 6, 6, 6, 6, 6, 6, 6, 6, 6, 6, 6, 6, 6, 6, 6, 6, 6, 6, 6, 6, 6, 6, 6, 6, 6, 6, 6, 6, 6, 6, 6, 6, 7, 7, 7, 7, 7, 7, 7, 7, 7, 7, 7, 7, 7, 7, 7, 7, 7, 7, 7, 7, 7, 7, 7, 7, 7, 7, 7, 7, 7, 7, 7, 7, 7, 7, 7, 7, 7, 7, 7, 7, 7, 7, 7, 7, 7, 7, 7, 7, 7, 7, 7, 7, 7, 7, 7, 7, 7, 7, 7, 7, 7, 7, 7, 7, 8, 8, 8, 8, 8, 8, 8, 8, 8, 8, 8, 8, 8, 8, 8, 8, 8, 8, 8, 8, 8, 8, 8, 8, 8, 8, 8, 8, 8, 8, 8, 8, 8, 8, 8, 8, 8, 8, 8, 8, 8, 8, 8, 8, 8, 8, 8, 8, 8, 8, 8, 8, 8, 8, 8, 8, 8, 8, 8, 8, 8, 8, 8, 8, 8, 8, 8, 8, 8, 8, 8, 8, 8, 8, 8, 8, 8, 8, 8, 8, 8, 8, 8, 8, 8, 8, 8, 8, 8, 8, 8, 8, 8, 8, 8, 8, 8, 8, 8, 8, 8, 8, 8, 8, 8, 8, 8, 8, 8, 8, 8, 8, 8, 8, 8, 8, 8, 8, 8, 8, 8, 8, 8, 8, 8, 8, 8, 8]⟩ : ByteArray)[x645.toNat]? : Option UInt8) with
                | some x646 =>
                  let x647 := ((x646.toNat : Nat) : Int)
                  let x648 := IntKind.i64.wrap x647
                  let x649 := IntKind.i64.wrap (x644 + x648)
                  k0 x649
                | none => none)))
theorem math_bits_Len64.ex : ∃ f : ((α : Type) → Nat → Int → (Int → Option α) → Option α), f = fun α => @math_bits_Len64.b α := ⟨_, rfl⟩
noncomputable def math_bits_Len64 {α : Type} : Nat → Int → (Int → Option α) → Option α := Classical.choose math_bits_Len64.ex α
theorem math_bits_Len64.eq : @math_bits_Len64 = @math_bits_Len64.b := funext fun α => congrFun (Classical.choose_spec math_bits_Len64.ex) α

/-- math/bits.Len -/
noncomputable def math_bits_Len.b {α : Type} (N : Nat) (a623 : Int) (k0 : Int → Option α) : Option α :=
  math_bits_Len64 N a623
    (fun x650 =>
      k0 x650)
theorem math_bits_Len.ex : ∃ f : ((α : Type) → Nat → Int → (Int → Option α) → Option α), f = fun α => @math_bits_Len.b α := ⟨_, rfl⟩
noncomputable def math_bits_Len {α : Type} : Nat → Int → (Int → Option α) → Option α := Classical.choose math_bits_Len.ex α
theorem math_bits_Len.eq : @math_bits_Len = @math_bits_Len.b := funext fun α => congrFun (Classical.choose_spec math_bits_Len.ex) α

/-- slices.Clone[[]int,int] -/
noncomputable def slices_Clone_int_int {α : Type} (N : Nat) (a1 : List Int) (k0 : List Int → Option α) : Option α :=
  bif decide (([] : List Int).length + a1.length ≤ 8796093022208) then k0 a1 else none

noncomputable def impl_natShift_J10.b {α : Type} (N : Nat) (v729 : List Int) (v730 : Int) (v731 : Int) (v732 : Int) (v733 : Int) (v734 : Int) (v735 : List Int) (k0 : List Int → Int → Int → Int → Int → List Int → Option α) : Option α :=
  let x736 := IntKind.i64.wrap (v730 + v732)
  let x737 := (IntKind.i64.wrap (x736 + (1 : Int)))
  let x738 := ((v729.length : Nat) : Int)
  let x739 := decide (x737 < x738)
  bif x739 then
    bif (decide (v732 < (0 : Int))) then
      none
    else
      bif decide (v732.toNat < v735.length) then
        match v735[v732.toNat]? with
        | some x740 =>
          let x741 := IntKind.i64.wrap (v730 + v732)
          let x742 := (IntKind.i64.wrap (x741 + (1 : Int)))
          bif (decide (x742 < (0 : Int))) then
            none
          else
            match v729[x742.toNat]? with
            | some x743 =>
              let x744 := (IntKind.i64.wrap ((16 : Int) - v731))
              bif (decide (x744 < (0 : Int))) then
                none
              else
                let x745 := shlI .i64 x743 x744
                let x746 := (bitI .and .i64 x745 (65535 : Int))
                let x747 := bitI .or .i64 x740 x746
                bif (decide (v732 < (0 : Int))) then
                  none
                else
                  bif decide (v732.toNat < v735.length) then
                    match v735[v732.toNat]? with
                    | some x748 =>
                      let x749 := v735.set v732.toNat x747
                      k0 v729 v730 v731 v733 v734 x749
                    | none => none
                  else
                    none
            | none => none
        | none => none
      else
        none
  else
    k0 v729 v730 v731 v733 v734 v735
theorem impl_natShift_J10.ex : ∃ f : ((α : Type) → Nat → List Int → Int → Int → Int → Int → Int → List Int → (List Int → Int → Int → Int → Int → List Int → Option α) → Option α), f = fun α => @impl_natShift_J10.b α := ⟨_, rfl⟩
noncomputable def impl_natShift_J10 {α : Type} : Nat → List Int → Int → Int → Int → Int → Int → List Int → (List Int → Int → Int → Int → Int → List Int → Option α) → Option α := Classical.choose impl_natShift_J10.ex α
theorem impl_natShift_J10.eq : @impl_natShift_J10 = @impl_natShift_J10.b := funext fun α => congrFun (Classical.choose_spec impl_natShift_J10.ex) α
noncomputable def impl_natShift_L0r {α : Type} (N : Nat) (next : List Int → Int → Int → Int → Int → List Int → Option α) (k0 : List Int → Option α) (v718 : List Int) (v719 : Int) (v720 : Int) (v721 : Int) (v722 : Int) (v723 : List Int) : Option α :=
  let x724 := decide (v722 < v721)
  bif x724 then
    bif (decide (v722 < (0 : Int))) then
      none
    else
      bif decide (v722.toNat < v723.length) then
        match v723[v722.toNat]? with
        | some x725 =>
          bif (decide (v720 < (0 : Int))) then
            none
          else
            let x726 := shrI .i64 x725 v720
            bif (decide (v722 < (0 : Int))) then
              none
            else
              bif decide (v722.toNat < v723.length) then
                match v723[v722.toNat]? with
                | some x727 =>
                  let x728 := v723.set v722.toNat x726
                  impl_natShift_J10 N v718 v719 v720 v722 v721 v722 x728
                    (fun x750 x751 x752 x753 x754 x755 =>
                      let x756 := (IntKind.i64.wrap (x754 + (1 : Int)))
                      next x750 x751 x752 x753 x756 x755)
                | none => none
              else
                none
        | none => none
      else
        none
  else
    k0 v723
noncomputable def impl_natShift_L0.b {α : Type} (N n : Nat) (v718 : List Int) (v719 : Int) (v720 : Int) (v721 : Int) (v722 : Int) (v723 : List Int) (k0 : List Int → Option α) : Option α :=
  Nat.rec (motive := fun _ => List Int → Int → Int → Int → Int → List Int → Option α) (fun _ _ _ _ _ _ => none) (fun _ next => impl_natShift_L0r N next k0) n v718 v719 v720 v721 v722 v723
theorem impl_natShift_L0.ex : ∃ f : ((α : Type) → Nat → Nat → List Int → Int → Int → Int → Int → List Int → (List Int → Option α) → Option α), f = fun α => @impl_natShift_L0.b α := ⟨_, rfl⟩
noncomputable def impl_natShift_L0 {α : Type} : Nat → Nat → List Int → Int → Int → Int → Int → List Int → (List Int → Option α) → Option α := Classical.choose impl_natShift_L0.ex α
theorem impl_natShift_L0.eq : @impl_natShift_L0 = @impl_natShift_L0.b := funext fun α => congrFun (Classical.choose_spec impl_natShift_L0.ex) α
theorem impl_natShift_L0.zero {α : Type} (N : Nat) (v718 : List Int) (v719 : Int) (v720 : Int) (v721 : Int) (v722 : Int) (v723 : List Int) (k0 : List Int → Option α) : impl_natShift_L0 N 0 v718 v719 v720 v721 v722 v723 k0 = none := by rw [impl_natShift_L0.eq]; rfl
theorem impl_natShift_L0.succ {α : Type} (N n : Nat) (v718 : List Int) (v719 : Int) (v720 : Int) (v721 : Int) (v722 : Int) (v723 : List Int) (k0 : List Int → Option α) : impl_natShift_L0 N (n + 1) v718 v719 v720 v721 v722 v723 k0 = impl_natShift_L0r N (fun y0 y1 y2 y3 y4 y5 => impl_natShift_L0 N n y0 y1 y2 y3 y4 y5 k0) k0 v718 v719 v720 v721 v722 v723 := by rw [impl_natShift_L0.eq]; rfl
noncomputable def impl_natShift_L2r {α : Type} (N : Nat) (next : Int → List Int → Int → Int → List Int → Option α) (k0 : List Int → Option α) (v765 : Int) (v766 : List Int) (v767 : Int) (v768 : Int) (v769 : List Int) : Option α :=
  let x770 := decide (v768 < v767)
  bif x770 then
    bif (decide (v768 < (0 : Int))) then
      none
    else
      match v766[v768.toNat]? with
      | some x771 =>
        let x772 := (Int.tmod v765 (16 : Int))
        bif (decide (x772 < (0 : Int))) then
          none
        else
          let x773 := shlI .i64 x771 x772
          let x774 := (IntKind.i64.wrap (Int.tdiv v765 (16 : Int)))
          let x775 := IntKind.i64.wrap (x774 + v768)
          bif (decide (x775 < (0 : Int))) then
            none
          else
            bif decide (x775.toNat < v769.length) then
              match v769[x775.toNat]? with
              | some x776 =>
                let x777 := (bitI .and .i64 x773 (65535 : Int))
                let x778 := bitI .or .i64 x776 x777
                bif (decide (x775 < (0 : Int))) then
                  none
                else
                  bif decide (x775.toNat < v769.length) then
                    match v769[x775.toNat]? with
                    | some x779 =>
                      let x780 := v769.set x775.toNat x778
                      let x781 := (IntKind.i64.wrap (Int.tdiv v765 (16 : Int)))
                      let x782 := IntKind.i64.wrap (x781 + v768)
                      let x783 := (IntKind.i64.wrap (x782 + (1 : Int)))
                      let x784 := (shrI .i64 x773 (16 : Int))
                      bif (decide (x783 < (0 : Int))) then
                        none
                      else
                        bif decide (x783.toNat < x780.length) then
                          match x780[x783.toNat]? with
                          | some x785 =>
                            let x786 := x780.set x783.toNat x784
                            let x787 := (IntKind.i64.wrap (v768 + (1 : Int)))
                            next v765 v766 v767 x787 x786
                          | none => none
                        else
                          none
                    | none => none
                  else
                    none
              | none => none
            else
              none
      | none => none
  else
    k0 v769
noncomputable def impl_natShift_L2.b {α : Type} (N n : Nat) (v765 : Int) (v766 : List Int) (v767 : Int) (v768 : Int) (v769 : List Int) (k0 : List Int → Option α) : Option α :=
  Nat.rec (motive := fun _ => Int → List Int → Int → Int → List Int → Option α) (fun _ _ _ _ _ => none) (fun _ next => impl_natShift_L2r N next k0) n v765 v766 v767 v768 v769
theorem impl_natShift_L2.ex : ∃ f : ((α : Type) → Nat → Nat → Int → List Int → Int → Int → List Int → (List Int → Option α) → Option α), f = fun α => @impl_natShift_L2.b α := ⟨_, rfl⟩
noncomputable def impl_natShift_L2 {α : Type} : Nat → Nat → Int → List Int → Int → Int → List Int → (List Int → Option α) → Option α := Classical.choose impl_natShift_L2.ex α
theorem impl_natShift_L2.eq : @impl_natShift_L2 = @impl_natShift_L2.b := funext fun α => congrFun (Classical.choose_spec impl_natShift_L2.ex) α
theorem impl_natShift_L2.zero {α : Type} (N : Nat) (v765 : Int) (v766 : List Int) (v767 : Int) (v768 : Int) (v769 : List Int) (k0 : List Int → Option α) : impl_natShift_L2 N 0 v765 v766 v767 v768 v769 k0 = none := by rw [impl_natShift_L2.eq]; rfl
theorem impl_natShift_L2.succ {α : Type} (N n : Nat) (v765 : Int) (v766 : List Int) (v767 : Int) (v768 : Int) (v769 : List Int) (k0 : List Int → Option α) : impl_natShift_L2 N (n + 1) v765 v766 v767 v768 v769 k0 = impl_natShift_L2r N (fun y0 y1 y2 y3 y4 => impl_natShift_L2 N n y0 y1 y2 y3 y4 k0) k0 v765 v766 v767 v768 v769 := by rw [impl_natShift_L2.eq]; rfl
/-- loop.example/pinfold/impl.natShift -/
noncomputable def impl_natShift.b {α : Type} (N : Nat) (a706 : List Int) (a707 : Int) (k0 : List Int → Option α) : Option α :=
  let x708 := (decide (a707 < (0 : Int)))
  bif x708 then
    let x709 := IntKind.i64.wrap (0 - a707)
    let x710 := (IntKind.i64.wrap (Int.tdiv x709 (16 : Int)))
    let x711 := IntKind.i64.wrap (0 - a707)
    let x712 := (Int.tmod x711 (16 : Int))
    let x713 := ((a706.length : Nat) : Int)
    let x714 := decide (x713 ≤ x710)
    bif x714 then
      k0 []
    else
      bif (decide ((0 : Int) ≤ x710)) then
        bif (decide (x710 ≤ ((a706.length : Nat) : Int))) then
          let x715 := a706.drop x710.toNat
          slices_Clone_int_int N x715
            (fun x716 =>
              let x717 := ((x716.length : Nat) : Int)
              impl_natShift_L0 N N a706 x710 x712 x717 (0 : Int) x716
                (fun x757 =>
                  impl_trim N x757
                    (fun x758 =>
                      k0 x758)))
        else
          none
      else
        none
  else
    let x759 := (IntKind.i64.wrap (Int.tdiv a707 (16 : Int)))
    let x760 := ((a706.length : Nat) : Int)
    let x761 := IntKind.i64.wrap (x759 + x760)
    let x762 := (IntKind.i64.wrap (x761 + (1 : Int)))
    bif (decide ((0 : Int) ≤ x762)) then
      bif decide (x762 ≤ x762) then
        bif (decide (x762 ≤ ((8796093022208 : Nat) : Int))) then
          let x763 := (List.replicate x762.toNat (0 : Int))
          let x764 := ((a706.length : Nat) : Int)
          impl_natShift_L2 N N a707 a706 x764 (0 : Int) x763
            (fun x788 =>
              impl_trim N x788
                (fun x789 =>
                  k0 x789))
        else
          none
      else
        none
    else
      none
theorem impl_natShift.ex : ∃ f : ((α : Type) → Nat → List Int → Int → (List Int → Option α) → Option α), f = fun α => @impl_natShift.b α := ⟨_, rfl⟩
noncomputable def impl_natShift {α : Type} : Nat → List Int → Int → (List Int → Option α) → Option α := Classical.choose impl_natShift.ex α
theorem impl_natShift.eq : @impl_natShift = @impl_natShift.b := funext fun α => congrFun (Classical.choose_spec impl_natShift.ex) α

noncomputable def impl_natDiv_L0r {α : Type} (N : Nat) (next : List Int → List Int → Int → Int → List Int → Option α) (k0 : Int → List Int → Option α) (v586 : List Int) (v587 : List Int) (v588 : Int) (v589 : Int) (v590 : List Int) : Option α :=
  let x591 := (decide ((0 : Int) ≤ v589))
  bif x591 then
    let x592 := (shlI .i64 v588 (16 : Int))
    bif (decide (v589 < (0 : Int))) then
      none
    else
      match v586[v589.toNat]? with
      | some x593 =>
        let x594 := bitI .or .i64 x592 x593
        match v587[0]? with
        | some x595 =>
          bif (decide (x595 = (0 : Int))) then
            none
          else
            let x596 := IntKind.i64.wrap (Int.tdiv x594 x595)
            match v587[0]? with
            | some x597 =>
              bif (decide (x597 = (0 : Int))) then
                none
              else
                let x598 := Int.tmod x594 x597
                bif (decide (v589 < (0 : Int))) then
                  none
                else
                  bif decide (v589.toNat < v590.length) then
                    match v590[v589.toNat]? with
                    | some x599 =>
                      let x600 := v590.set v589.toNat x596
                      let x601 := (IntKind.i64.wrap (v589 - (1 : Int)))
                      next v586 v587 x598 x601 x600
                    | none => none
                  else
                    none
            | none => none
        | none => none
      | none => none
  else
    k0 v588 v590
noncomputable def impl_natDiv_L0.b {α : Type} (N n : Nat) (v586 : List Int) (v587 : List Int) (v588 : Int) (v589 : Int) (v590 : List Int) (k0 : Int → List Int → Option α) : Option α :=
  Nat.rec (motive := fun _ => List Int → List Int → Int → Int → List Int → Option α) (fun _ _ _ _ _ => none) (fun _ next => impl_natDiv_L0r N next k0) n v586 v587 v588 v589 v590
theorem impl_natDiv_L0.ex : ∃ f : ((α : Type) → Nat → Nat → List Int → List Int → Int → Int → List Int → (Int → List Int → Option α) → Option α), f = fun α => @impl_natDiv_L0.b α := ⟨_, rfl⟩
noncomputable def impl_natDiv_L0 {α : Type} : Nat → Nat → List Int → List Int → Int → Int → List Int → (Int → List Int → Option α) → Option α := Classical.choose impl_natDiv_L0.ex α
theorem impl_natDiv_L0.eq : @impl_natDiv_L0 = @impl_natDiv_L0.b := funext fun α => congrFun (Classical.choose_spec impl_natDiv_L0.ex) α
theorem impl_natDiv_L0.zero {α : Type} (N : Nat) (v586 : List Int) (v587 : List Int) (v588 : Int) (v589 : Int) (v590 : List Int) (k0 : Int → List Int → Option α) : impl_natDiv_L0 N 0 v586 v587 v588 v589 v590 k0 = none := by rw [impl_natDiv_L0.eq]; rfl
theorem impl_natDiv_L0.succ {α : Type} (N n : Nat) (v586 : List Int) (v587 : List Int) (v588 : Int) (v589 : Int) (v590 : List Int) (k0 : Int → List Int → Option α) : impl_natDiv_L0 N (n + 1) v586 v587 v588 v589 v590 k0 = impl_natDiv_L0r N (fun y0 y1 y2 y3 y4 => impl_natDiv_L0 N n y0 y1 y2 y3 y4 k0) k0 v586 v587 v588 v589 v590 := by rw [impl_natDiv_L0.eq]; rfl
noncomputable def impl_natDiv_L2r {α : Type} (N : Nat) (next : List Int → Int → List Int → Int → List Int → Option α) (k0 : Int → List Int → Int → List Int → Option α) (v796 : List Int) (v797 : Int) (v798 : List Int) (v799 : Int) (v800 : List Int) : Option α :=
  let x801 := ((v800.length : Nat) : Int)
  let x802 := ((v796.length : Nat) : Int)
  let x803 := (IntKind.i64.wrap (x802 + (1 : Int)))
  let x804 := decide (x801 < x803)
  bif x804 then
    let x805 := [(0 : Int)]
    bif decide (v800.length + x805.length ≤ 8796093022208) then
      let x806 := v800 ++ x805
      next v796 v797 v798 v799 x806
    else
      none
  else
    k0 v797 v798 v799 v800
noncomputable def impl_natDiv_L2.b {α : Type} (N n : Nat) (v796 : List Int) (v797 : Int) (v798 : List Int) (v799 : Int) (v800 : List Int) (k0 : Int → List Int → Int → List Int → Option α) : Option α :=
  Nat.rec (motive := fun _ => List Int → Int → List Int → Int → List Int → Option α) (fun _ _ _ _ _ => none) (fun _ next => impl_natDiv_L2r N next k0) n v796 v797 v798 v799 v800
theorem impl_natDiv_L2.ex : ∃ f : ((α : Type) → Nat → Nat → List Int → Int → List Int → Int → List Int → (Int → List Int → Int → List Int → Option α) → Option α), f = fun α => @impl_natDiv_L2.b α := ⟨_, rfl⟩
noncomputable def impl_natDiv_L2 {α : Type} : Nat → Nat → List Int → Int → List Int → Int → List Int → (Int → List Int → Int → List Int → Option α) → Option α := Classical.choose impl_natDiv_L2.ex α
theorem impl_natDiv_L2.eq : @impl_natDiv_L2 = @impl_natDiv_L2.b := funext fun α => congrFun (Classical.choose_spec impl_natDiv_L2.ex) α
theorem impl_natDiv_L2.zero {α : Type} (N : Nat) (v796 : List Int) (v797 : Int) (v798 : List Int) (v799 : Int) (v800 : List Int) (k0 : Int → List Int → Int → List Int → Option α) : impl_natDiv_L2 N 0 v796 v797 v798 v799 v800 k0 = none := by rw [impl_natDiv_L2.eq]; rfl
theorem impl_natDiv_L2.succ {α : Type} (N n : Nat) (v796 : List Int) (v797 : Int) (v798 : List Int) (v799 : Int) (v800 : List Int) (k0 : Int → List Int → Int → List Int → Option α) : impl_natDiv_L2 N (n + 1) v796 v797 v798 v799 v800 k0 = impl_natDiv_L2r N (fun y0 y1 y2 y3 y4 => impl_natDiv_L2 N n y0 y1 y2 y3 y4 k0) k0 v796 v797 v798 v799 v800 := by rw [impl_natDiv_L2.eq]; rfl
noncomputable def impl_natDiv_L6r {α : Type} (N : Nat) (next : Int → List Int → Int → Int → Int → Int → List Int → List Int → Option α) (k0 : Int → List Int → Int → Int → Int → List Int → List Int → Option α) (v837 : Int) (v838 : List Int) (v839 : Int) (v840 : Int) (v841 : Int) (v842 : Int) (v843 : List Int) (v844 : List Int) : Option α :=
  let x845 := (decide ((65536 : Int) ≤ v841))
  bif x845 then
    let x846 := (IntKind.i64.wrap (v841 - (1 : Int)))
    let x847 := (IntKind.i64.wrap (v839 - (1 : Int)))
    bif (decide (x847 < (0 : Int))) then
      none
    else
      match v838[x847.toNat]? with
      | some x848 =>
        let x849 := IntKind.i64.wrap (v842 + x848)
        let x850 := (decide ((65536 : Int) ≤ x849))
        bif x850 then
          k0 v837 v838 v839 v840 x846 v843 v844
        else
          next v837 v838 v839 v840 x846 x849 v843 v844
      | none => none
  else
    let x851 := (IntKind.i64.wrap (v839 - (2 : Int)))
    bif (decide (x851 < (0 : Int))) then
      none
    else
      match v838[x851.toNat]? with
      | some x852 =>
        let x853 := IntKind.i64.wrap (v841 * x852)
        let x854 := (shlI .i64 v842 (16 : Int))
        let x855 := IntKind.i64.wrap (v840 + v839)
        let x856 := (IntKind.i64.wrap (x855 - (2 : Int)))
        bif (decide (x856 < (0 : Int))) then
          none
        else
          bif decide (x856.toNat < v843.length) then
            match v843[x856.toNat]? with
            | some x857 =>
              let x858 := bitI .or .i64 x854 x857
              let x859 := decide (x858 < x853)
              bif x859 then
                let x860 := (IntKind.i64.wrap (v841 - (1 : Int)))
                let x861 := (IntKind.i64.wrap (v839 - (1 : Int)))
                bif (decide (x861 < (0 : Int))) then
                  none
                else
                  match v838[x861.toNat]? with
                  | some x862 =>
                    let x863 := IntKind.i64.wrap (v842 + x862)
                    let x864 := (decide ((65536 : Int) ≤ x863))
                    bif x864 then
                      k0 v837 v838 v839 v840 x860 v843 v844
                    else
                      next v837 v838 v839 v840 x860 x863 v843 v844
                  | none => none
              else
                k0 v837 v838 v839 v840 v841 v843 v844
            | none => none
          else
            none
      | none => none
noncomputable def impl_natDiv_L6.b {α : Type} (N n : Nat) (v837 : Int) (v838 : List Int) (v839 : Int) (v840 : Int) (v841 : Int) (v842 : Int) (v843 : List Int) (v844 : List Int) (k0 : Int → List Int → Int → Int → Int → List Int → List Int → Option α) : Option α :=
  Nat.rec (motive := fun _ => Int → List Int → Int → Int → Int → Int → List Int → List Int → Option α) (fun _ _ _ _ _ _ _ _ => none) (fun _ next => impl_natDiv_L6r N next k0) n v837 v838 v839 v840 v841 v842 v843 v844
theorem impl_natDiv_L6.ex : ∃ f : ((α : Type) → Nat → Nat → Int → List Int → Int → Int → Int → Int → List Int → List Int → (Int → List Int → Int → Int → Int → List Int → List Int → Option α) → Option α), f = fun α => @impl_natDiv_L6.b α := ⟨_, rfl⟩
noncomputable def impl_natDiv_L6 {α : Type} : Nat → Nat → Int → List Int → Int → Int → Int → Int → List Int → List Int → (Int → List Int → Int → Int → Int → List Int → List Int → Option α) → Option α := Classical.choose impl_natDiv_L6.ex α
theorem impl_natDiv_L6.eq : @impl_natDiv_L6 = @impl_natDiv_L6.b := funext fun α => congrFun (Classical.choose_spec impl_natDiv_L6.ex) α
theorem impl_natDiv_L6.zero {α : Type} (N : Nat) (v837 : Int) (v838 : List Int) (v839 : Int) (v840 : Int) (v841 : Int) (v842 : Int) (v843 : List Int) (v844 : List Int) (k0 : Int → List Int → Int → Int → Int → List Int → List Int → Option α) : impl_natDiv_L6 N 0 v837 v838 v839 v840 v841 v842 v843 v844 k0 = none := by rw [impl_natDiv_L6.eq]; rfl
theorem impl_natDiv_L6.succ {α : Type} (N n : Nat) (v837 : Int) (v838 : List Int) (v839 : Int) (v840 : Int) (v841 : Int) (v842 : Int) (v843 : List Int) (v844 : List Int) (k0 : Int → List Int → Int → Int → Int → List Int → List Int → Option α) : impl_natDiv_L6 N (n + 1) v837 v838 v839 v840 v841 v842 v843 v844 k0 = impl_natDiv_L6r N (fun y0 y1 y2 y3 y4 y5 y6 y7 => impl_natDiv_L6 N n y0 y1 y2 y3 y4 y5 y6 y7 k0) k0 v837 v838 v839 v840 v841 v842 v843 v844 := by rw [impl_natDiv_L6.eq]; rfl
noncomputable def impl_natDiv_J34.b {α : Type} (N : Nat) (v891 : Int) (v892 : List Int) (v893 : Int) (v894 : Int) (v895 : Int) (v896 : Int) (v897 : Int) (v898 : Int) (v899 : List Int) (v900 : Int) (v901 : Int) (v902 : List Int) (v903 : List Int) (k0 : Int → List Int → Int → Int → Int → Int → Int → Int → List Int → Int → Int → List Int → List Int → Option α) : Option α :=
  let x904 := (decide (v898 < (0 : Int)))
  bif x904 then
    let x905 := IntKind.i64.wrap (0 - v898)
    let x906 := (IntKind.i64.wrap (x905 + (65536 : Int)))
    let x907 := (IntKind.i64.wrap (x906 - (1 : Int)))
    let x908 := (IntKind.i64.wrap (Int.tdiv x907 (65536 : Int)))
    let x909 := (IntKind.i64.wrap (x908 * (65536 : Int)))
    let x910 := IntKind.i64.wrap (v898 + x909)
    k0 v891 v892 v893 v894 v895 x908 v897 x910 v899 v900 v901 v902 v903
  else
    k0 v891 v892 v893 v894 v895 v896 v897 v898 v899 v900 v901 v902 v903
theorem impl_natDiv_J34.ex : ∃ f : ((α : Type) → Nat → Int → List Int → Int → Int → Int → Int → Int → Int → List Int → Int → Int → List Int → List Int → (Int → List Int → Int → Int → Int → Int → Int → Int → List Int → Int → Int → List Int → List Int → Option α) → Option α), f = fun α => @impl_natDiv_J34.b α := ⟨_, rfl⟩
noncomputable def impl_natDiv_J34 {α : Type} : Nat → Int → List Int → Int → Int → Int → Int → Int → Int → List Int → Int → Int → List Int → List Int → (Int → List Int → Int → Int → Int → Int → Int → Int → List Int → Int → Int → List Int → List Int → Option α) → Option α := Classical.choose impl_natDiv_J34.ex α
theorem impl_natDiv_J34.eq : @impl_natDiv_J34 = @impl_natDiv_J34.b := funext fun α => congrFun (Classical.choose_spec impl_natDiv_J34.ex) α
noncomputable def impl_natDiv_L8r {α : Type} (N : Nat) (next : Int → List Int → Int → Int → Int → Int → List Int → Int → Int → List Int → List Int → Option α) (k0 : Int → List Int → Int → Int → Int → Int → List Int → List Int → Option α) (v873 : Int) (v874 : List Int) (v875 : Int) (v876 : Int) (v877 : Int) (v878 : Int) (v879 : List Int) (v880 : Int) (v881 : Int) (v882 : List Int) (v883 : List Int) : Option α :=
  let x884 := decide (v881 < v880)
  bif x884 then
    bif (decide (v881 < (0 : Int))) then
      none
    else
      match v879[v881.toNat]? with
      | some x885 =>
        let x886 := IntKind.i64.wrap (v876 + v881)
        bif (decide (x886 < (0 : Int))) then
          none
        else
          bif decide (x886.toNat < v882.length) then
            match v882[x886.toNat]? with
            | some x887 =>
              let x888 := IntKind.i64.wrap (x887 - v878)
              let x889 := IntKind.i64.wrap (v877 * x885)
              let x890 := IntKind.i64.wrap (x888 - x889)
              impl_natDiv_J34 N v873 v874 v875 v876 v877 (0 : Int) v881 x890 v879 v880 v881 v882 v883
                (fun x911 x912 x913 x914 x915 x916 x917 x918 x919 x920 x921 x922 x923 =>
                  let x924 := IntKind.i64.wrap (x914 + x917)
                  bif (decide (x924 < (0 : Int))) then
                    none
                  else
                    bif decide (x924.toNat < x922.length) then
                      match x922[x924.toNat]? with
                      | some x925 =>
                        let x926 := x922.set x924.toNat x918
                        let x927 := (IntKind.i64.wrap (x921 + (1 : Int)))
                        next x911 x912 x913 x914 x915 x916 x919 x920 x927 x926 x923
                      | none => none
                    else
                      none)
            | none => none
          else
            none
      | none => none
  else
    k0 v873 v874 v875 v876 v877 v878 v882 v883
noncomputable def impl_natDiv_L8.b {α : Type} (N n : Nat) (v873 : Int) (v874 : List Int) (v875 : Int) (v876 : Int) (v877 : Int) (v878 : Int) (v879 : List Int) (v880 : Int) (v881 : Int) (v882 : List Int) (v883 : List Int) (k0 : Int → List Int → Int → Int → Int → Int → List Int → List Int → Option α) : Option α :=
  Nat.rec (motive := fun _ => Int → List Int → Int → Int → Int → Int → List Int → Int → Int → List Int → List Int → Option α) (fun _ _ _ _ _ _ _ _ _ _ _ => none) (fun _ next => impl_natDiv_L8r N next k0) n v873 v874 v875 v876 v877 v878 v879 v880 v881 v882 v883
theorem impl_natDiv_L8.ex : ∃ f : ((α : Type) → Nat → Nat → Int → List Int → Int → Int → Int → Int → List Int → Int → Int → List Int → List Int → (Int → List Int → Int → Int → Int → Int → List Int → List Int → Option α) → Option α), f = fun α => @impl_natDiv_L8.b α := ⟨_, rfl⟩
noncomputable def impl_natDiv_L8 {α : Type} : Nat → Nat → Int → List Int → Int → Int → Int → Int → List Int → Int → Int → List Int → List Int → (Int → List Int → Int → Int → Int → Int → List Int → List Int → Option α) → Option α := Classical.choose impl_natDiv_L8.ex α
theorem impl_natDiv_L8.eq : @impl_natDiv_L8 = @impl_natDiv_L8.b := funext fun α => congrFun (Classical.choose_spec impl_natDiv_L8.ex) α
theorem impl_natDiv_L8.zero {α : Type} (N : Nat) (v873 : Int) (v874 : List Int) (v875 : Int) (v876 : Int) (v877 : Int) (v878 : Int) (v879 : List Int) (v880 : Int) (v881 : Int) (v882 : List Int) (v883 : List Int) (k0 : Int → List Int → Int → Int → Int → Int → List Int → List Int → Option α) : impl_natDiv_L8 N 0 v873 v874 v875 v876 v877 v878 v879 v880 v881 v882 v883 k0 = none := by rw [impl_natDiv_L8.eq]; rfl
theorem impl_natDiv_L8.succ {α : Type} (N n : Nat) (v873 : Int) (v874 : List Int) (v875 : Int) (v876 : Int) (v877 : Int) (v878 : Int) (v879 : List Int) (v880 : Int) (v881 : Int) (v882 : List Int) (v883 : List Int) (k0 : Int → List Int → Int → Int → Int → Int → List Int → List Int → Option α) : impl_natDiv_L8 N (n + 1) v873 v874 v875 v876 v877 v878 v879 v880 v881 v882 v883 k0 = impl_natDiv_L8r N (fun y0 y1 y2 y3 y4 y5 y6 y7 y8 y9 y10 => impl_natDiv_L8 N n y0 y1 y2 y3 y4 y5 y6 y7 y8 y9 y10 k0) k0 v873 v874 v875 v876 v877 v878 v879 v880 v881 v882 v883 := by rw [impl_natDiv_L8.eq]; rfl
noncomputable def impl_natDiv_L10r {α : Type} (N : Nat) (next : Int → List Int → Int → Int → Int → Int → List Int → Int → Int → List Int → List Int → Option α) (k0 : Int → List Int → Int → Int → Int → Int → List Int → List Int → Option α) (v953 : Int) (v954 : List Int) (v955 : Int) (v956 : Int) (v957 : Int) (v958 : Int) (v959 : List Int) (v960 : Int) (v961 : Int) (v962 : List Int) (v963 : List Int) : Option α :=
  let x964 := decide (v961 < v960)
  bif x964 then
    bif (decide (v961 < (0 : Int))) then
      none
    else
      match v959[v961.toNat]? with
      | some x965 =>
        let x966 := IntKind.i64.wrap (v956 + v961)
        bif (decide (x966 < (0 : Int))) then
          none
        else
          bif decide (x966.toNat < v962.length) then
            match v962[x966.toNat]? with
            | some x967 =>
              let x968 := IntKind.i64.wrap (x967 + x965)
              let x969 := IntKind.i64.wrap (x968 + v958)
              let x970 := IntKind.i64.wrap (v956 + v961)
              let x971 := (bitI .and .i64 x969 (65535 : Int))
              let x972 := (shrI .i64 x969 (16 : Int))
              bif (decide (x970 < (0 : Int))) then
                none
              else
                bif decide (x970.toNat < v962.length) then
                  match v962[x970.toNat]? with
                  | some x973 =>
                    let x974 := v962.set x970.toNat x971
                    let x975 := (IntKind.i64.wrap (v961 + (1 : Int)))
                    next v953 v954 v955 v956 v957 x972 v959 v960 x975 x974 v963
                  | none => none
                else
                  none
            | none => none
          else
            none
      | none => none
  else
    k0 v953 v954 v955 v956 v957 v958 v962 v963
noncomputable def impl_natDiv_L10.b {α : Type} (N n : Nat) (v953 : Int) (v954 : List Int) (v955 : Int) (v956 : Int) (v957 : Int) (v958 : Int) (v959 : List Int) (v960 : Int) (v961 : Int) (v962 : List Int) (v963 : List Int) (k0 : Int → List Int → Int → Int → Int → Int → List Int → List Int → Option α) : Option α :=
  Nat.rec (motive := fun _ => Int → List Int → Int → Int → Int → Int → List Int → Int → Int → List Int → List Int → Option α) (fun _ _ _ _ _ _ _ _ _ _ _ => none) (fun _ next => impl_natDiv_L10r N next k0) n v953 v954 v955 v956 v957 v958 v959 v960 v961 v962 v963
theorem impl_natDiv_L10.ex : ∃ f : ((α : Type) → Nat → Nat → Int → List Int → Int → Int → Int → Int → List Int → Int → Int → List Int → List Int → (Int → List Int → Int → Int → Int → Int → List Int → List Int → Option α) → Option α), f = fun α => @impl_natDiv_L10.b α := ⟨_, rfl⟩
noncomputable def impl_natDiv_L10 {α : Type} : Nat → Nat → Int → List Int → Int → Int → Int → Int → List Int → Int → Int → List Int → List Int → (Int → List Int → Int → Int → Int → Int → List Int → List Int → Option α) → Option α := Classical.choose impl_natDiv_L10.ex α
theorem impl_natDiv_L10.eq : @impl_natDiv_L10 = @impl_natDiv_L10.b := funext fun α => congrFun (Classical.choose_spec impl_natDiv_L10.ex) α
theorem impl_natDiv_L10.zero {α : Type} (N : Nat) (v953 : Int) (v954 : List Int) (v955 : Int) (v956 : Int) (v957 : Int) (v958 : Int) (v959 : List Int) (v960 : Int) (v961 : Int) (v962 : List Int) (v963 : List Int) (k0 : Int → List Int → Int → Int → Int → Int → List Int → List Int → Option α) : impl_natDiv_L10 N 0 v953 v954 v955 v956 v957 v958 v959 v960 v961 v962 v963 k0 = none := by rw [impl_natDiv_L10.eq]; rfl
theorem impl_natDiv_L10.succ {α : Type} (N n : Nat) (v953 : Int) (v954 : List Int) (v955 : Int) (v956 : Int) (v957 : Int) (v958 : Int) (v959 : List Int) (v960 : Int) (v961 : Int) (v962 : List Int) (v963 : List Int) (k0 : Int → List Int → Int → Int → Int → Int → List Int → List Int → Option α) : impl_natDiv_L10 N (n + 1) v953 v954 v955 v956 v957 v958 v959 v960 v961 v962 v963 k0 = impl_natDiv_L10r N (fun y0 y1 y2 y3 y4 y5 y6 y7 y8 y9 y10 => impl_natDiv_L10 N n y0 y1 y2 y3 y4 y5 y6 y7 y8 y9 y10 k0) k0 v953 v954 v955 v956 v957 v958 v959 v960 v961 v962 v963 := by rw [impl_natDiv_L10.eq]; rfl
noncomputable def impl_natDiv_J40.b {α : Type} (N : Nat) (v941 : Int) (v942 : List Int) (v943 : Int) (v944 : Int) (v945 : Int) (v946 : List Int) (v947 : List Int) (k0 : Int → List Int → Int → Int → Int → List Int → List Int → Option α) : Option α :=
  let x948 := IntKind.i64.wrap (v944 + v943)
  bif (decide (x948 < (0 : Int))) then
    none
  else
    bif decide (x948.toNat < v946.length) then
      match v946[x948.toNat]? with
      | some x949 =>
        let x950 := (decide (x949 < (0 : Int)))
        bif x950 then
          let x951 := (IntKind.i64.wrap (v945 - (1 : Int)))
          let x952 := ((v942.length : Nat) : Int)
          impl_natDiv_L10 N N v941 v942 v943 v944 x951 (0 : Int) v942 x952 (0 : Int) v946 v947
            (fun x976 x977 x978 x979 x980 x981 x982 x983 =>
              let x984 := IntKind.i64.wrap (x979 + x978)
              bif (decide (x984 < (0 : Int))) then
                none
              else
                bif decide (x984.toNat < x982.length) then
                  match x982[x984.toNat]? with
                  | some x985 =>
                    let x986 := IntKind.i64.wrap (x985 + x981)
                    bif (decide (x984 < (0 : Int))) then
                      none
                    else
                      bif decide (x984.toNat < x982.length) then
                        match x982[x984.toNat]? with
                        | some x987 =>
                          let x988 := x982.set x984.toNat x986
                          k0 x976 x977 x978 x979 x980 x988 x983
                        | none => none
                      else
                        none
                  | none => none
                else
                  none)
        else
          k0 v941 v942 v943 v944 v945 v946 v947
      | none => none
    else
      none
theorem impl_natDiv_J40.ex : ∃ f : ((α : Type) → Nat → Int → List Int → Int → Int → Int → List Int → List Int → (Int → List Int → Int → Int → Int → List Int → List Int → Option α) → Option α), f = fun α => @impl_natDiv_J40.b α := ⟨_, rfl⟩
noncomputable def impl_natDiv_J40 {α : Type} : Nat → Int → List Int → Int → Int → Int → List Int → List Int → (Int → List Int → Int → Int → Int → List Int → List Int → Option α) → Option α := Classical.choose impl_natDiv_J40.ex α
theorem impl_natDiv_J40.eq : @impl_natDiv_J40 = @impl_natDiv_J40.b := funext fun α => congrFun (Classical.choose_spec impl_natDiv_J40.ex) α
noncomputable def impl_natDiv_L4r {α : Type} (N : Nat) (next : Int → List Int → Int → Int → List Int → List Int → Option α) (k0 : Int → List Int → List Int → Option α) (v817 : Int) (v818 : List Int) (v819 : Int) (v820 : Int) (v821 : List Int) (v822 : List Int) : Option α :=
  let x823 := (decide ((0 : Int) ≤ v820))
  bif x823 then
    let x824 := IntKind.i64.wrap (v820 + v819)
    bif (decide (x824 < (0 : Int))) then
      none
    else
      bif decide (x824.toNat < v821.length) then
        match v821[x824.toNat]? with
        | some x825 =>
          let x826 := (shlI .i64 x825 (16 : Int))
          let x827 := IntKind.i64.wrap (v820 + v819)
          let x828 := (IntKind.i64.wrap (x827 - (1 : Int)))
          bif (decide (x828 < (0 : Int))) then
            none
          else
            bif decide (x828.toNat < v821.length) then
              match v821[x828.toNat]? with
              | some x829 =>
                let x830 := bitI .or .i64 x826 x829
                let x831 := (IntKind.i64.wrap (v819 - (1 : Int)))
                bif (decide (x831 < (0 : Int))) then
                  none
                else
                  match v818[x831.toNat]? with
                  | some x832 =>
                    bif (decide (x832 = (0 : Int))) then
                      none
                    else
                      let x833 := IntKind.i64.wrap (Int.tdiv x830 x832)
                      let x834 := (IntKind.i64.wrap (v819 - (1 : Int)))
                      bif (decide (x834 < (0 : Int))) then
                        none
                      else
                        match v818[x834.toNat]? with
                        | some x835 =>
                          bif (decide (x835 = (0 : Int))) then
                            none
                          else
                            let x836 := Int.tmod x830 x835
                            impl_natDiv_L6 N N v817 v818 v819 v820 x833 x836 v821 v822
                              (fun x865 x866 x867 x868 x869 x870 x871 =>
                                let x872 := ((x866.length : Nat) : Int)
                                impl_natDiv_L8 N N x865 x866 x867 x868 x869 (0 : Int) x866 x872 (0 : Int) x870 x871
                                  (fun x928 x929 x930 x931 x932 x933 x934 x935 =>
                                    let x936 := IntKind.i64.wrap (x931 + x930)
                                    bif (decide (x936 < (0 : Int))) then
                                      none
                                    else
                                      bif decide (x936.toNat < x934.length) then
                                        match x934[x936.toNat]? with
                                        | some x937 =>
                                          let x938 := IntKind.i64.wrap (x937 - x933)
                                          bif (decide (x936 < (0 : Int))) then
                                            none
                                          else
                                            bif decide (x936.toNat < x934.length) then
                                              match x934[x936.toNat]? with
                                              | some x939 =>
                                                let x940 := x934.set x936.toNat x938
                                                impl_natDiv_J40 N x928 x929 x930 x931 x932 x940 x935
                                                  (fun x989 x990 x991 x992 x993 x994 x995 =>
                                                    bif (decide (x992 < (0 : Int))) then
                                                      none
                                                    else
                                                      bif decide (x992.toNat < x995.length) then
                                                        match x995[x992.toNat]? with
                                                        | some x996 =>
                                                          let x997 := x995.set x992.toNat x993
                                                          let x998 := (IntKind.i64.wrap (x992 - (1 : Int)))
                                                          next x989 x990 x991 x998 x994 x997
                                                        | none => none
                                                      else
                                                        none)
                                              | none => none
                                            else
                                              none
                                        | none => none
                                      else
                                        none))
                        | none => none
                  | none => none
              | none => none
            else
              none
        | none => none
      else
        none
  else
    k0 v817 v821 v822
noncomputable def impl_natDiv_L4.b {α : Type} (N n : Nat) (v817 : Int) (v818 : List Int) (v819 : Int) (v820 : Int) (v821 : List Int) (v822 : List Int) (k0 : Int → List Int → List Int → Option α) : Option α :=
  Nat.rec (motive := fun _ => Int → List Int → Int → Int → List Int → List Int → Option α) (fun _ _ _ _ _ _ => none) (fun _ next => impl_natDiv_L4r N next k0) n v817 v818 v819 v820 v821 v822
theorem impl_natDiv_L4.ex : ∃ f : ((α : Type) → Nat → Nat → Int → List Int → Int → Int → List Int → List Int → (Int → List Int → List Int → Option α) → Option α), f = fun α => @impl_natDiv_L4.b α := ⟨_, rfl⟩
noncomputable def impl_natDiv_L4 {α : Type} : Nat → Nat → Int → List Int → Int → Int → List Int → List Int → (Int → List Int → List Int → Option α) → Option α := Classical.choose impl_natDiv_L4.ex α
theorem impl_natDiv_L4.eq : @impl_natDiv_L4 = @impl_natDiv_L4.b := funext fun α => congrFun (Classical.choose_spec impl_natDiv_L4.ex) α
theorem impl_natDiv_L4.zero {α : Type} (N : Nat) (v817 : Int) (v818 : List Int) (v819 : Int) (v820 : Int) (v821 : List Int) (v822 : List Int) (k0 : Int → List Int → List Int → Option α) : impl_natDiv_L4 N 0 v817 v818 v819 v820 v821 v822 k0 = none := by rw [impl_natDiv_L4.eq]; rfl
theorem impl_natDiv_L4.succ {α : Type} (N n : Nat) (v817 : Int) (v818 : List Int) (v819 : Int) (v820 : Int) (v821 : List Int) (v822 : List Int) (k0 : Int → List Int → List Int → Option α) : impl_natDiv_L4 N (n + 1) v817 v818 v819 v820 v821 v822 k0 = impl_natDiv_L4r N (fun y0 y1 y2 y3 y4 y5 => impl_natDiv_L4 N n y0 y1 y2 y3 y4 y5 k0) k0 v817 v818 v819 v820 v821 v822 := by rw [impl_natDiv_L4.eq]; rfl
/-- loop.example/pinfold/impl.natDiv -/
noncomputable def impl_natDiv.b {α : Type} (N : Nat) (a550 : List Int) (a551 : List Int) (k0 : List Int → List Int → Option α) : Option α :=
  impl_natCmp N a550 a551
    (fun x578 =>
      let x579 := (decide (x578 < (0 : Int)))
      bif x579 then
        k0 [] a550
      else
        let x580 := ((a551.length : Nat) : Int)
        let x581 := (decide (x580 = (1 : Int)))
        bif x581 then
          let x582 := ((a550.length : Nat) : Int)
          bif (decide ((0 : Int) ≤ x582)) then
            bif decide (x582 ≤ x582) then
              bif (decide (x582 ≤ ((8796093022208 : Nat) : Int))) then
                let x583 := (List.replicate x582.toNat (0 : Int))
                let x584 := ((a550.length : Nat) : Int)
                let x585 := (IntKind.i64.wrap (x584 - (1 : Int)))
                impl_natDiv_L0 N N a550 a551 (0 : Int) x585 x583
                  (fun x602 x603 =>
                    impl_trim N x603
                      (fun x616 =>
                        let x617 := [x602]
                        impl_trim N x617
                          (fun x618 =>
                            k0 x616 x618)))
              else
                none
            else
              none
          else
            none
        else
          let x619 := ((a551.length : Nat) : Int)
          let x620 := (IntKind.i64.wrap (x619 - (1 : Int)))
          bif (decide (x620 < (0 : Int))) then
            none
          else
            match a551[x620.toNat]? with
            | some x621 =>
              let x622 := IntKind.u64.wrap x621
              math_bits_Len N x622
                (fun x651 =>
                  let x652 := (IntKind.i64.wrap ((16 : Int) - x651))
                  impl_natShift N a551 x652
                    (fun x790 =>
                      impl_natShift N a550 x652
                        (fun x791 =>
                          slices_Clone_int_int N x791
                            (fun x792 =>
                              let x793 := [(0 : Int)]
                              bif decide (x792.length + x793.length ≤ 8796093022208) then
                                let x794 := x792 ++ x793
                                let x795 := ((x790.length : Nat) : Int)
                                impl_natDiv_L2 N N a550 x652 x790 x795 x794
                                  (fun x807 x808 x809 x810 =>
                                    let x811 := ((x810.length : Nat) : Int)
                                    let x812 := IntKind.i64.wrap (x811 - x809)
                                    bif (decide ((0 : Int) ≤ x812)) then
                                      bif decide (x812 ≤ x812) then
                                        bif (decide (x812 ≤ ((8796093022208 : Nat) : Int))) then
                                          let x813 := (List.replicate x812.toNat (0 : Int))
                                          let x814 := ((x810.length : Nat) : Int)
                                          let x815 := IntKind.i64.wrap (x814 - x809)
                                          let x816 := (IntKind.i64.wrap (x815 - (1 : Int)))
                                          impl_natDiv_L4 N N x807 x808 x809 x816 x810 x813
                                            (fun x999 x1000 x1001 =>
                                              impl_trim N x1001
                                                (fun x1002 =>
                                                  impl_trim N x1000
                                                    (fun x1003 =>
                                                      let x1004 := IntKind.i64.wrap (0 - x999)
                                                      impl_natShift N x1003 x1004
                                                        (fun x1005 =>
                                                          k0 x1002 x1005))))
                                        else
                                          none
                                      else
                                        none
                                    else
                                      none)
                              else
                                none))))
            | none => none)
theorem impl_natDiv.ex : ∃ f : ((α : Type) → Nat → List Int → List Int → (List Int → List Int → Option α) → Option α), f = fun α => @impl_natDiv.b α := ⟨_, rfl⟩
noncomputable def impl_natDiv {α : Type} : Nat → List Int → List Int → (List Int → List Int → Option α) → Option α := Classical.choose impl_natDiv.ex α
theorem impl_natDiv.eq : @impl_natDiv = @impl_natDiv.b := funext fun α => congrFun (Classical.choose_spec impl_natDiv.ex) α

noncomputable def impl_natGcd_L0r {α : Type} (N : Nat) (next : List Int → List Int → Option α) (k0 : List Int → Option α) (v477 : List Int) (v478 : List Int) : Option α :=
  let x479 := ((v478.length : Nat) : Int)
  let x480 := (decide ((0 : Int) < x479))
  bif x480 then
    impl_natDiv N v477 v478
      (fun _ x1007 =>
        next v478 x1007)
  else
    k0 v477
noncomputable def impl_natGcd_L0.b {α : Type} (N n : Nat) (v477 : List Int) (v478 : List Int) (k0 : List Int → Option α) : Option α :=
  Nat.rec (motive := fun _ => List Int → List Int → Option α) (fun _ _ => none) (fun _ next => impl_natGcd_L0r N next k0) n v477 v478
theorem impl_natGcd_L0.ex : ∃ f : ((α : Type) → Nat → Nat → List Int → List Int → (List Int → Option α) → Option α), f = fun α => @impl_natGcd_L0.b α := ⟨_, rfl⟩
noncomputable def impl_natGcd_L0 {α : Type} : Nat → Nat → List Int → List Int → (List Int → Option α) → Option α := Classical.choose impl_natGcd_L0.ex α
theorem impl_natGcd_L0.eq : @impl_natGcd_L0 = @impl_natGcd_L0.b := funext fun α => congrFun (Classical.choose_spec impl_natGcd_L0.ex) α
theorem impl_natGcd_L0.zero {α : Type} (N : Nat) (v477 : List Int) (v478 : List Int) (k0 : List Int → Option α) : impl_natGcd_L0 N 0 v477 v478 k0 = none := by rw [impl_natGcd_L0.eq]; rfl
theorem impl_natGcd_L0.succ {α : Type} (N n : Nat) (v477 : List Int) (v478 : List Int) (k0 : List Int → Option α) : impl_natGcd_L0 N (n + 1) v477 v478 k0 = impl_natGcd_L0r N (fun y0 y1 => impl_natGcd_L0 N n y0 y1 k0) k0 v477 v478 := by rw [impl_natGcd_L0.eq]; rfl
/-- loop.example/pinfold/impl.natGcd -/
noncomputable def impl_natGcd.b {α : Type} (N : Nat) (a475 : List Int) (a476 : List Int) (k0 : List Int → Option α) : Option α :=
  impl_natGcd_L0 N N a475 a476
    (fun x1008 =>
      k0 x1008)
theorem impl_natGcd.ex : ∃ f : ((α : Type) → Nat → List Int → List Int → (List Int → Option α) → Option α), f = fun α => @impl_natGcd.b α := ⟨_, rfl⟩
noncomputable def impl_natGcd {α : Type} : Nat → List Int → List Int → (List Int → Option α) → Option α := Classical.choose impl_natGcd.ex α
theorem impl_natGcd.eq : @impl_natGcd = @impl_natGcd.b := funext fun α => congrFun (Classical.choose_spec impl_natGcd.ex) α

/-- loop.example/pinfold/impl.FracOk -/
noncomputable def impl_FracOk.b {α : Type} (N : Nat) (a415 : Bool × (List Int) × (List Int) × Unit) (k0 : Bool → Option α) : Option α :=
  let x416 := [a415.2.1, a415.2.2.1]
  impl_nats N x416
    (fun x470 =>
      bif x470 then
        let x471 := ((a415.2.2.1.length : Nat) : Int)
        let x472 := (decide ((0 : Int) < x471))
        bif x472 then
          let x473 := ((a415.2.1.length : Nat) : Int)
          let x474 := (decide ((0 : Int) < x473))
          bif x474 then
            impl_natGcd N a415.2.1 a415.2.2.1
              (fun x1009 =>
                let x1010 := [(1 : Int)]
                impl_natCmp N x1009 x1010
                  (fun x1011 =>
                    let x1012 := (decide (x1011 = (0 : Int)))
                    k0 x1012))
          else
            let x1013 := !a415.1
            bif x1013 then
              impl_natGcd N a415.2.1 a415.2.2.1
                (fun x1014 =>
                  let x1015 := [(1 : Int)]
                  impl_natCmp N x1014 x1015
                    (fun x1016 =>
                      let x1017 := (decide (x1016 = (0 : Int)))
                      k0 x1017))
            else
              k0 false
        else
          k0 false
      else
        k0 false)
theorem impl_FracOk.ex : ∃ f : ((α : Type) → Nat → (Bool × (List Int) × (List Int) × Unit) → (Bool → Option α) → Option α), f = fun α => @impl_FracOk.b α := ⟨_, rfl⟩
noncomputable def impl_FracOk {α : Type} : Nat → (Bool × (List Int) × (List Int) × Unit) → (Bool → Option α) → Option α := Classical.choose impl_FracOk.ex α
theorem impl_FracOk.eq : @impl_FracOk = @impl_FracOk.b := funext fun α => congrFun (Classical.choose_spec impl_FracOk.ex) α

noncomputable def laws_eqIntS_L0r {α : Type} (N : Nat) (next : List Int → List Int → Int → Option α) (k0 : Bool → Option α) (k1 : Option α) (v1031 : List Int) (v1032 : List Int) (v1033 : Int) : Option α :=
  let x1034 := ((v1031.length : Nat) : Int)
  let x1035 := decide (v1033 < x1034)
  bif x1035 then
    bif (decide (v1033 < (0 : Int))) then
      none
    else
      match v1031[v1033.toNat]? with
      | some x1036 =>
        bif (decide (v1033 < (0 : Int))) then
          none
        else
          match v1032[v1033.toNat]? with
          | some x1037 =>
            let x1038 := !(decide (x1036 = x1037))
            bif x1038 then
              k0 false
            else
              let x1039 := (IntKind.i64.wrap (v1033 + (1 : Int)))
              next v1031 v1032 x1039
          | none => none
      | none => none
  else
    k1
noncomputable def laws_eqIntS_L0.b {α : Type} (N n : Nat) (v1031 : List Int) (v1032 : List Int) (v1033 : Int) (k0 : Bool → Option α) (k1 : Option α) : Option α :=
  Nat.rec (motive := fun _ => List Int → List Int → Int → Option α) (fun _ _ _ => none) (fun _ next => laws_eqIntS_L0r N next k0 k1) n v1031 v1032 v1033
theorem laws_eqIntS_L0.ex : ∃ f : ((α : Type) → Nat → Nat → List Int → List Int → Int → (Bool → Option α) → (Option α) → Option α), f = fun α => @laws_eqIntS_L0.b α := ⟨_, rfl⟩
noncomputable def laws_eqIntS_L0 {α : Type} : Nat → Nat → List Int → List Int → Int → (Bool → Option α) → (Option α) → Option α := Classical.choose laws_eqIntS_L0.ex α
theorem laws_eqIntS_L0.eq : @laws_eqIntS_L0 = @laws_eqIntS_L0.b := funext fun α => congrFun (Classical.choose_spec laws_eqIntS_L0.ex) α
theorem laws_eqIntS_L0.zero {α : Type} (N : Nat) (v1031 : List Int) (v1032 : List Int) (v1033 : Int) (k0 : Bool → Option α) (k1 : Option α) : laws_eqIntS_L0 N 0 v1031 v1032 v1033 k0 k1 = none := by rw [laws_eqIntS_L0.eq]; rfl
theorem laws_eqIntS_L0.succ {α : Type} (N n : Nat) (v1031 : List Int) (v1032 : List Int) (v1033 : Int) (k0 : Bool → Option α) (k1 : Option α) : laws_eqIntS_L0 N (n + 1) v1031 v1032 v1033 k0 k1 = laws_eqIntS_L0r N (fun y0 y1 y2 => laws_eqIntS_L0 N n y0 y1 y2 k0 k1) k0 k1 v1031 v1032 v1033 := by rw [laws_eqIntS_L0.eq]; rfl
/-- loop.example/pinfold/laws.eqIntS -/
noncomputable def laws_eqIntS.b {α : Type} (N : Nat) (a1026 : List Int) (a1027 : List Int) (k0 : Bool → Option α) : Option α :=
  let x1028 := ((a1026.length : Nat) : Int)
  let x1029 := ((a1027.length : Nat) : Int)
  let x1030 := !(decide (x1028 = x1029))
  bif x1030 then
    k0 false
  else
    laws_eqIntS_L0 N N a1026 a1027 (0 : Int)
      (fun x1040 =>
        k0 x1040)
      (
        k0 true)
theorem laws_eqIntS.ex : ∃ f : ((α : Type) → Nat → List Int → List Int → (Bool → Option α) → Option α), f = fun α => @laws_eqIntS.b α := ⟨_, rfl⟩
noncomputable def laws_eqIntS {α : Type} : Nat → List Int → List Int → (Bool → Option α) → Option α := Classical.choose laws_eqIntS.ex α
theorem laws_eqIntS.eq : @laws_eqIntS = @laws_eqIntS.b := funext fun α => congrFun (Classical.choose_spec laws_eqIntS.ex) α

/-- loop.example/pinfold/laws.eqFrac -/
noncomputable def laws_eqFrac.b {α : Type} (N : Nat) (a1023 : Bool × (List Int) × (List Int) × Unit) (a1024 : Bool × (List Int) × (List Int) × Unit) (k0 : Bool → Option α) : Option α :=
  let x1025 := !(a1023.1 == a1024.1)
  bif x1025 then
    k0 false
  else
    laws_eqIntS N a1023.2.1 a1024.2.1
      (fun x1041 =>
        let x1042 := !x1041
        bif x1042 then
          k0 false
        else
          laws_eqIntS N a1023.2.2.1 a1024.2.2.1
            (fun x1043 =>
              let x1044 := !x1043
              bif x1044 then
                k0 false
              else
                k0 true))
theorem laws_eqFrac.ex : ∃ f : ((α : Type) → Nat → (Bool × (List Int) × (List Int) × Unit) → (Bool × (List Int) × (List Int) × Unit) → (Bool → Option α) → Option α), f = fun α => @laws_eqFrac.b α := ⟨_, rfl⟩
noncomputable def laws_eqFrac {α : Type} : Nat → (Bool × (List Int) × (List Int) × Unit) → (Bool × (List Int) × (List Int) × Unit) → (Bool → Option α) → Option α := Classical.choose laws_eqFrac.ex α
theorem laws_eqFrac.eq : @laws_eqFrac = @laws_eqFrac.b := funext fun α => congrFun (Classical.choose_spec laws_eqFrac.ex) α

/-- loop.example/pinfold/laws.FnExactFracOk -/
noncomputable def laws_FnExactFracOk.b {α : Type} (N : Nat) (a1 : Bool × (List Int) × (List Int) × Unit) (k0 : Bool → Option α) : Option α :=
  laws_szFrac N a1 (1048576 : Int)
    (fun x13 =>
      let x14 := (decide (x13 < (0 : Int)))
      bif x14 then
        k0 true
      else
        laws_toFrac N a1
          (fun x31 x32 x33 =>
            spec_FracOk N (x31, (x32, (x33, ())))
              (fun x411 =>
                laws_toFrac N a1
                  (fun x412 x413 x414 =>
                    impl_FracOk N (x412, (x413, (x414, ())))
                      (fun x1018 =>
                        let x1019 := !(x1018 == x411)
                        bif x1019 then
                          k0 false
                        else
                          laws_toFrac N a1
                            (fun x1020 x1021 x1022 =>
                              laws_eqFrac N (x412, (x413, (x414, ()))) (x1020, (x1021, (x1022, ())))
                                (fun x1045 =>
                                  let x1046 := !x1045
                                  bif x1046 then
                                    k0 false
                                  else
                                    k0 true)))))))
theorem laws_FnExactFracOk.ex : ∃ f : ((α : Type) → Nat → (Bool × (List Int) × (List Int) × Unit) → (Bool → Option α) → Option α), f = fun α => @laws_FnExactFracOk.b α := ⟨_, rfl⟩
noncomputable def laws_FnExactFracOk {α : Type} : Nat → (Bool × (List Int) × (List Int) × Unit) → (Bool → Option α) → Option α := Classical.choose laws_FnExactFracOk.ex α
theorem laws_FnExactFracOk.eq : @laws_FnExactFracOk = @laws_FnExactFracOk.b := funext fun α => congrFun (Classical.choose_spec laws_FnExactFracOk.ex) α

end
end Go.Proofs.YthjjaddhcdekjaaAm
