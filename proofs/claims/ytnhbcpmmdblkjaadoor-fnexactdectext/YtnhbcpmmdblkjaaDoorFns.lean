/-
  The functions that the program computes, as the abstract machine tells them. Printed by amp.py.
-/
import Derived.Test.YtnhbcpmmdblkjaaDoorAmc
namespace Go.Proofs.YtnhbcpmmdblkjaaDoorAm
open Go
noncomputable section
set_option linter.unusedVariables false
set_option linter.unusedSimpArgs false

/-- laws.szIntS -/
noncomputable def laws_szIntS.b {α : Type} (N : Nat) (a4 : List Int) (a5 : Int) (k0 : Int → Option α) : Option α :=
 let x6 := ((a4.length : Nat) : Int)
 let x7 := IntKind.i64.wrap (a5 - x6)
 let x8 := (decide (x7 < (0 : Int)))
 bif x8 then
  k0 (-1 : Int)
 else
  k0 x7
theorem laws_szIntS.ex : ∃ f : ((α : Type) → Nat → List Int → Int → (Int → Option α) → Option α), f = fun α => @laws_szIntS.b α := ⟨_, rfl⟩
noncomputable def laws_szIntS {α : Type} : Nat → List Int → Int → (Int → Option α) → Option α := Classical.choose laws_szIntS.ex α
theorem laws_szIntS.eq : @laws_szIntS = @laws_szIntS.b := funext fun α => congrFun (Classical.choose_spec laws_szIntS.ex) α

/-- laws.szFrac -/
noncomputable def laws_szFrac.b {α : Type} (N : Nat) (a2 : Bool × (List Int) × (List Int) × Unit) (a3 : Int) (k0 : Int → Option α) : Option α :=
 laws_szIntS N a2.2.1 a3
  (fun x9 =>
   let x10 := (decide (x9 < (0 : Int)))
   bif x10 then
    k0 (-1 : Int)
   else
    laws_szIntS N a2.2.2.1 x9
     (fun x11 =>
      let x12 := (decide (x11 < (0 : Int)))
      bif x12 then
       k0 (-1 : Int)
      else
       k0 x11))
theorem laws_szFrac.ex : ∃ f : ((α : Type) → Nat → (Bool × (List Int) × (List Int) × Unit) → Int → (Int → Option α) → Option α), f = fun α => @laws_szFrac.b α := ⟨_, rfl⟩
noncomputable def laws_szFrac {α : Type} : Nat → (Bool × (List Int) × (List Int) × Unit) → Int → (Int → Option α) → Option α := Classical.choose laws_szFrac.ex α
theorem laws_szFrac.eq : @laws_szFrac = @laws_szFrac.b := funext fun α => congrFun (Classical.choose_spec laws_szFrac.ex) α

noncomputable def laws_toIntS_L0r {α : Type} (N : Nat) (next : List Int → Int → List Int → Option α) (k0 : List Int → Option α) (v19 : List Int) (v20 : Int) (v21 : List Int) : Option α :=
 let x22 := ((v19.length : Nat) : Int)
 let x23 := decide (v20 < x22)
 bif x23 then
  bif (decide (v20 < (0 : Int))) then
   none
  else
   match v19[v20.toNat]? with
   | some x24 =>
    bif (decide (v20 < (0 : Int))) then
     none
    else
     bif decide (v20.toNat < v21.length) then
      match v21[v20.toNat]? with
      | some x25 =>
       let x26 := v21.set v20.toNat x24
       let x27 := (IntKind.i64.wrap (v20 + (1 : Int)))
       next v19 x27 x26
      | none => none
     else
      none
   | none => none
 else
  k0 v21
noncomputable def laws_toIntS_L0.b {α : Type} (N n : Nat) (v19 : List Int) (v20 : Int) (v21 : List Int) (k0 : List Int → Option α) : Option α :=
  Nat.rec (motive := fun _ => List Int → Int → List Int → Option α) (fun _ _ _ => none) (fun _ next => laws_toIntS_L0r N next k0) n v19 v20 v21
theorem laws_toIntS_L0.ex : ∃ f : ((α : Type) → Nat → Nat → List Int → Int → List Int → (List Int → Option α) → Option α), f = fun α => @laws_toIntS_L0.b α := ⟨_, rfl⟩
noncomputable def laws_toIntS_L0 {α : Type} : Nat → Nat → List Int → Int → List Int → (List Int → Option α) → Option α := Classical.choose laws_toIntS_L0.ex α
theorem laws_toIntS_L0.eq : @laws_toIntS_L0 = @laws_toIntS_L0.b := funext fun α => congrFun (Classical.choose_spec laws_toIntS_L0.ex) α
theorem laws_toIntS_L0.zero {α : Type} (N : Nat) (v19 : List Int) (v20 : Int) (v21 : List Int) (k0 : List Int → Option α) : laws_toIntS_L0 N 0 v19 v20 v21 k0 = none := by rw [laws_toIntS_L0.eq]; rfl
theorem laws_toIntS_L0.succ {α : Type} (N n : Nat) (v19 : List Int) (v20 : Int) (v21 : List Int) (k0 : List Int → Option α) : laws_toIntS_L0 N (n + 1) v19 v20 v21 k0 = laws_toIntS_L0r N (fun y0 y1 y2 => laws_toIntS_L0 N n y0 y1 y2 k0) k0 v19 v20 v21 := by rw [laws_toIntS_L0.eq]; rfl
/-- laws.toIntS -/
noncomputable def laws_toIntS.b {α : Type} (N : Nat) (a16 : List Int) (k0 : List Int → Option α) : Option α :=
 let x17 := ((a16.length : Nat) : Int)
 bif (decide ((0 : Int) ≤ x17)) then
  bif decide (x17 ≤ x17) then
   bif (decide (x17 ≤ ((8796093022208 : Nat) : Int))) then
    let x18 := (List.replicate x17.toNat (0 : Int))
    laws_toIntS_L0 N N a16 (0 : Int) x18
     (fun x28 =>
      k0 x28)
   else
    none
  else
   none
 else
  none
theorem laws_toIntS.ex : ∃ f : ((α : Type) → Nat → List Int → (List Int → Option α) → Option α), f = fun α => @laws_toIntS.b α := ⟨_, rfl⟩
noncomputable def laws_toIntS {α : Type} : Nat → List Int → (List Int → Option α) → Option α := Classical.choose laws_toIntS.ex α
theorem laws_toIntS.eq : @laws_toIntS = @laws_toIntS.b := funext fun α => congrFun (Classical.choose_spec laws_toIntS.ex) α

/-- laws.toFrac -/
noncomputable def laws_toFrac.b {α : Type} (N : Nat) (a15 : Bool × (List Int) × (List Int) × Unit) (k0 : Bool → List Int → List Int → Option α) : Option α :=
 laws_toIntS N a15.2.1
  (fun x29 =>
   laws_toIntS N a15.2.2.1
    (fun x30 =>
     k0 a15.1 x29 x30))
theorem laws_toFrac.ex : ∃ f : ((α : Type) → Nat → (Bool × (List Int) × (List Int) × Unit) → (Bool → List Int → List Int → Option α) → Option α), f = fun α => @laws_toFrac.b α := ⟨_, rfl⟩
noncomputable def laws_toFrac {α : Type} : Nat → (Bool × (List Int) × (List Int) × Unit) → (Bool → List Int → List Int → Option α) → Option α := Classical.choose laws_toFrac.ex α
theorem laws_toFrac.eq : @laws_toFrac = @laws_toFrac.b := funext fun α => congrFun (Classical.choose_spec laws_toFrac.ex) α

noncomputable def spec_NatOk_L0r {α : Type} (N : Nat) (next : List Int → Int → Option α) (k0 : Bool → Option α) (k1 : List Int → Option α) (v39 : List Int) (v40 : Int) : Option α :=
 let x41 := ((v39.length : Nat) : Int)
 let x42 := decide (v40 < x41)
 bif x42 then
  bif (decide (v40 < (0 : Int))) then
   none
  else
   match v39[v40.toNat]? with
   | some x43 =>
    let x44 := (decide (x43 < (0 : Int)))
    bif x44 then
     k0 false
    else
     bif (decide (v40 < (0 : Int))) then
      none
     else
      match v39[v40.toNat]? with
      | some x45 =>
       let x46 := (decide ((65536 : Int) ≤ x45))
       bif x46 then
        k0 false
       else
        let x47 := (IntKind.i64.wrap (v40 + (1 : Int)))
        next v39 x47
      | none => none
   | none => none
 else
  k1 v39
noncomputable def spec_NatOk_L0.b {α : Type} (N n : Nat) (v39 : List Int) (v40 : Int) (k0 : Bool → Option α) (k1 : List Int → Option α) : Option α :=
  Nat.rec (motive := fun _ => List Int → Int → Option α) (fun _ _ => none) (fun _ next => spec_NatOk_L0r N next k0 k1) n v39 v40
theorem spec_NatOk_L0.ex : ∃ f : ((α : Type) → Nat → Nat → List Int → Int → (Bool → Option α) → (List Int → Option α) → Option α), f = fun α => @spec_NatOk_L0.b α := ⟨_, rfl⟩
noncomputable def spec_NatOk_L0 {α : Type} : Nat → Nat → List Int → Int → (Bool → Option α) → (List Int → Option α) → Option α := Classical.choose spec_NatOk_L0.ex α
theorem spec_NatOk_L0.eq : @spec_NatOk_L0 = @spec_NatOk_L0.b := funext fun α => congrFun (Classical.choose_spec spec_NatOk_L0.ex) α
theorem spec_NatOk_L0.zero {α : Type} (N : Nat) (v39 : List Int) (v40 : Int) (k0 : Bool → Option α) (k1 : List Int → Option α) : spec_NatOk_L0 N 0 v39 v40 k0 k1 = none := by rw [spec_NatOk_L0.eq]; rfl
theorem spec_NatOk_L0.succ {α : Type} (N n : Nat) (v39 : List Int) (v40 : Int) (k0 : Bool → Option α) (k1 : List Int → Option α) : spec_NatOk_L0 N (n + 1) v39 v40 k0 k1 = spec_NatOk_L0r N (fun y0 y1 => spec_NatOk_L0 N n y0 y1 k0 k1) k0 k1 v39 v40 := by rw [spec_NatOk_L0.eq]; rfl
/-- spec.NatOk -/
noncomputable def spec_NatOk.b {α : Type} (N : Nat) (a36 : List Int) (k0 : Bool → Option α) : Option α :=
 let x37 := ((a36.length : Nat) : Int)
 let x38 := (decide ((256 : Int) < x37))
 bif x38 then
  k0 false
 else
  spec_NatOk_L0 N N a36 (0 : Int)
   (fun x48 =>
    k0 x48)
   (fun x49 =>
    let x50 := ((x49.length : Nat) : Int)
    let x51 := (decide (x50 = (0 : Int)))
    bif x51 then
     k0 true
    else
     let x52 := ((x49.length : Nat) : Int)
     let x53 := (IntKind.i64.wrap (x52 - (1 : Int)))
     bif (decide (x53 < (0 : Int))) then
      none
     else
      match x49[x53.toNat]? with
      | some x54 =>
       let x55 := (!(decide (x54 = (0 : Int))))
       k0 x55
      | none => none)
theorem spec_NatOk.ex : ∃ f : ((α : Type) → Nat → List Int → (Bool → Option α) → Option α), f = fun α => @spec_NatOk.b α := ⟨_, rfl⟩
noncomputable def spec_NatOk {α : Type} : Nat → List Int → (Bool → Option α) → Option α := Classical.choose spec_NatOk.ex α
theorem spec_NatOk.eq : @spec_NatOk = @spec_NatOk.b := funext fun α => congrFun (Classical.choose_spec spec_NatOk.ex) α

noncomputable def spec_l5Trim_L0r {α : Type} (N : Nat) (next : List Int → Int → Option α) (k0 : List Int → Int → Option α) (v68 : List Int) (v69 : Int) : Option α :=
 let x70 := (decide ((0 : Int) < v69))
 bif x70 then
  let x71 := (IntKind.i64.wrap (v69 - (1 : Int)))
  bif (decide (x71 < (0 : Int))) then
   none
  else
   match v68[x71.toNat]? with
   | some x72 =>
    let x73 := (decide (x72 = (0 : Int)))
    bif x73 then
     let x74 := (IntKind.i64.wrap (v69 - (1 : Int)))
     next v68 x74
    else
     k0 v68 v69
   | none => none
 else
  k0 v68 v69
noncomputable def spec_l5Trim_L0.b {α : Type} (N n : Nat) (v68 : List Int) (v69 : Int) (k0 : List Int → Int → Option α) : Option α :=
  Nat.rec (motive := fun _ => List Int → Int → Option α) (fun _ _ => none) (fun _ next => spec_l5Trim_L0r N next k0) n v68 v69
theorem spec_l5Trim_L0.ex : ∃ f : ((α : Type) → Nat → Nat → List Int → Int → (List Int → Int → Option α) → Option α), f = fun α => @spec_l5Trim_L0.b α := ⟨_, rfl⟩
noncomputable def spec_l5Trim_L0 {α : Type} : Nat → Nat → List Int → Int → (List Int → Int → Option α) → Option α := Classical.choose spec_l5Trim_L0.ex α
theorem spec_l5Trim_L0.eq : @spec_l5Trim_L0 = @spec_l5Trim_L0.b := funext fun α => congrFun (Classical.choose_spec spec_l5Trim_L0.ex) α
theorem spec_l5Trim_L0.zero {α : Type} (N : Nat) (v68 : List Int) (v69 : Int) (k0 : List Int → Int → Option α) : spec_l5Trim_L0 N 0 v68 v69 k0 = none := by rw [spec_l5Trim_L0.eq]; rfl
theorem spec_l5Trim_L0.succ {α : Type} (N n : Nat) (v68 : List Int) (v69 : Int) (k0 : List Int → Int → Option α) : spec_l5Trim_L0 N (n + 1) v68 v69 k0 = spec_l5Trim_L0r N (fun y0 y1 => spec_l5Trim_L0 N n y0 y1 k0) k0 v68 v69 := by rw [spec_l5Trim_L0.eq]; rfl
noncomputable def spec_l5Trim_L2r {α : Type} (N : Nat) (next : List Int → Int → Int → List Int → Option α) (k0 : List Int → Option α) (v77 : List Int) (v78 : Int) (v79 : Int) (v80 : List Int) : Option α :=
 let x81 := decide (v79 < v78)
 bif x81 then
  bif (decide (v79 < (0 : Int))) then
   none
  else
   match v77[v79.toNat]? with
   | some x82 =>
    let x83 := [x82]
    bif decide (v80.length + x83.length ≤ 8796093022208) then
     let x84 := v80 ++ x83
     let x85 := (IntKind.i64.wrap (v79 + (1 : Int)))
     next v77 v78 x85 x84
    else
     none
   | none => none
 else
  k0 v80
noncomputable def spec_l5Trim_L2.b {α : Type} (N n : Nat) (v77 : List Int) (v78 : Int) (v79 : Int) (v80 : List Int) (k0 : List Int → Option α) : Option α :=
  Nat.rec (motive := fun _ => List Int → Int → Int → List Int → Option α) (fun _ _ _ _ => none) (fun _ next => spec_l5Trim_L2r N next k0) n v77 v78 v79 v80
theorem spec_l5Trim_L2.ex : ∃ f : ((α : Type) → Nat → Nat → List Int → Int → Int → List Int → (List Int → Option α) → Option α), f = fun α => @spec_l5Trim_L2.b α := ⟨_, rfl⟩
noncomputable def spec_l5Trim_L2 {α : Type} : Nat → Nat → List Int → Int → Int → List Int → (List Int → Option α) → Option α := Classical.choose spec_l5Trim_L2.ex α
theorem spec_l5Trim_L2.eq : @spec_l5Trim_L2 = @spec_l5Trim_L2.b := funext fun α => congrFun (Classical.choose_spec spec_l5Trim_L2.ex) α
theorem spec_l5Trim_L2.zero {α : Type} (N : Nat) (v77 : List Int) (v78 : Int) (v79 : Int) (v80 : List Int) (k0 : List Int → Option α) : spec_l5Trim_L2 N 0 v77 v78 v79 v80 k0 = none := by rw [spec_l5Trim_L2.eq]; rfl
theorem spec_l5Trim_L2.succ {α : Type} (N n : Nat) (v77 : List Int) (v78 : Int) (v79 : Int) (v80 : List Int) (k0 : List Int → Option α) : spec_l5Trim_L2 N (n + 1) v77 v78 v79 v80 k0 = spec_l5Trim_L2r N (fun y0 y1 y2 y3 => spec_l5Trim_L2 N n y0 y1 y2 y3 k0) k0 v77 v78 v79 v80 := by rw [spec_l5Trim_L2.eq]; rfl
/-- spec.l5Trim -/
noncomputable def spec_l5Trim.b {α : Type} (N : Nat) (a66 : List Int) (k0 : List Int → Option α) : Option α :=
 let x67 := ((a66.length : Nat) : Int)
 spec_l5Trim_L0 N N a66 x67
  (fun x75 x76 =>
   spec_l5Trim_L2 N N x75 x76 (0 : Int) []
    (fun x86 =>
     k0 x86))
theorem spec_l5Trim.ex : ∃ f : ((α : Type) → Nat → List Int → (List Int → Option α) → Option α), f = fun α => @spec_l5Trim.b α := ⟨_, rfl⟩
noncomputable def spec_l5Trim {α : Type} : Nat → List Int → (List Int → Option α) → Option α := Classical.choose spec_l5Trim.ex α
theorem spec_l5Trim.eq : @spec_l5Trim = @spec_l5Trim.b := funext fun α => congrFun (Classical.choose_spec spec_l5Trim.ex) α

noncomputable def spec_l5Cmp_L0r {α : Type} (N : Nat) (next : List Int → List Int → Int → Option α) (k0 : Int → Option α) (k1 : Option α) (v105 : List Int) (v106 : List Int) (v107 : Int) : Option α :=
 let x108 := (decide ((0 : Int) ≤ v107))
 bif x108 then
  bif (decide (v107 < (0 : Int))) then
   none
  else
   match v105[v107.toNat]? with
   | some x109 =>
    bif (decide (v107 < (0 : Int))) then
     none
    else
     match v106[v107.toNat]? with
     | some x110 =>
      let x111 := decide (x109 < x110)
      bif x111 then
       k0 (-1 : Int)
      else
       bif (decide (v107 < (0 : Int))) then
        none
       else
        match v105[v107.toNat]? with
        | some x112 =>
         bif (decide (v107 < (0 : Int))) then
          none
         else
          match v106[v107.toNat]? with
          | some x113 =>
           let x114 := decide (x113 < x112)
           bif x114 then
            k0 (1 : Int)
           else
            let x115 := (IntKind.i64.wrap (v107 - (1 : Int)))
            next v105 v106 x115
          | none => none
        | none => none
     | none => none
   | none => none
 else
  k1
noncomputable def spec_l5Cmp_L0.b {α : Type} (N n : Nat) (v105 : List Int) (v106 : List Int) (v107 : Int) (k0 : Int → Option α) (k1 : Option α) : Option α :=
  Nat.rec (motive := fun _ => List Int → List Int → Int → Option α) (fun _ _ _ => none) (fun _ next => spec_l5Cmp_L0r N next k0 k1) n v105 v106 v107
theorem spec_l5Cmp_L0.ex : ∃ f : ((α : Type) → Nat → Nat → List Int → List Int → Int → (Int → Option α) → (Option α) → Option α), f = fun α => @spec_l5Cmp_L0.b α := ⟨_, rfl⟩
noncomputable def spec_l5Cmp_L0 {α : Type} : Nat → Nat → List Int → List Int → Int → (Int → Option α) → (Option α) → Option α := Classical.choose spec_l5Cmp_L0.ex α
theorem spec_l5Cmp_L0.eq : @spec_l5Cmp_L0 = @spec_l5Cmp_L0.b := funext fun α => congrFun (Classical.choose_spec spec_l5Cmp_L0.ex) α
theorem spec_l5Cmp_L0.zero {α : Type} (N : Nat) (v105 : List Int) (v106 : List Int) (v107 : Int) (k0 : Int → Option α) (k1 : Option α) : spec_l5Cmp_L0 N 0 v105 v106 v107 k0 k1 = none := by rw [spec_l5Cmp_L0.eq]; rfl
theorem spec_l5Cmp_L0.succ {α : Type} (N n : Nat) (v105 : List Int) (v106 : List Int) (v107 : Int) (k0 : Int → Option α) (k1 : Option α) : spec_l5Cmp_L0 N (n + 1) v105 v106 v107 k0 k1 = spec_l5Cmp_L0r N (fun y0 y1 y2 => spec_l5Cmp_L0 N n y0 y1 y2 k0 k1) k0 k1 v105 v106 v107 := by rw [spec_l5Cmp_L0.eq]; rfl
/-- spec.l5Cmp -/
noncomputable def spec_l5Cmp.b {α : Type} (N : Nat) (a95 : List Int) (a96 : List Int) (k0 : Int → Option α) : Option α :=
 let x97 := ((a95.length : Nat) : Int)
 let x98 := ((a96.length : Nat) : Int)
 let x99 := decide (x97 < x98)
 bif x99 then
  k0 (-1 : Int)
 else
  let x100 := ((a95.length : Nat) : Int)
  let x101 := ((a96.length : Nat) : Int)
  let x102 := decide (x101 < x100)
  bif x102 then
   k0 (1 : Int)
  else
   let x103 := ((a95.length : Nat) : Int)
   let x104 := (IntKind.i64.wrap (x103 - (1 : Int)))
   spec_l5Cmp_L0 N N a95 a96 x104
    (fun x116 =>
     k0 x116)
    (
     k0 (0 : Int))
theorem spec_l5Cmp.ex : ∃ f : ((α : Type) → Nat → List Int → List Int → (Int → Option α) → Option α), f = fun α => @spec_l5Cmp.b α := ⟨_, rfl⟩
noncomputable def spec_l5Cmp {α : Type} : Nat → List Int → List Int → (Int → Option α) → Option α := Classical.choose spec_l5Cmp.ex α
theorem spec_l5Cmp.eq : @spec_l5Cmp = @spec_l5Cmp.b := funext fun α => congrFun (Classical.choose_spec spec_l5Cmp.ex) α

noncomputable def spec_l5DivSmall_L0r {α : Type} (N : Nat) (next : List Int → Int → Int → Int → List Int → Option α) (k0 : Int → List Int → Option α) (v129 : List Int) (v130 : Int) (v131 : Int) (v132 : Int) (v133 : List Int) : Option α :=
 let x134 := (decide ((0 : Int) ≤ v132))
 bif x134 then
  let x135 := (IntKind.i64.wrap (v131 * (65536 : Int)))
  bif (decide (v132 < (0 : Int))) then
   none
  else
   match v129[v132.toNat]? with
   | some x136 =>
    let x137 := IntKind.i64.wrap (x135 + x136)
    bif (decide (v130 = (0 : Int))) then
     none
    else
     let x138 := IntKind.i64.wrap (Int.tdiv x137 v130)
     bif (decide (v132 < (0 : Int))) then
      none
     else
      bif decide (v132.toNat < v133.length) then
       match v133[v132.toNat]? with
       | some x139 =>
        let x140 := v133.set v132.toNat x138
        bif (decide (v130 = (0 : Int))) then
         none
        else
         let x141 := Int.tmod x137 v130
         let x142 := (IntKind.i64.wrap (v132 - (1 : Int)))
         next v129 v130 x141 x142 x140
       | none => none
      else
       none
   | none => none
 else
  k0 v131 v133
noncomputable def spec_l5DivSmall_L0.b {α : Type} (N n : Nat) (v129 : List Int) (v130 : Int) (v131 : Int) (v132 : Int) (v133 : List Int) (k0 : Int → List Int → Option α) : Option α :=
  Nat.rec (motive := fun _ => List Int → Int → Int → Int → List Int → Option α) (fun _ _ _ _ _ => none) (fun _ next => spec_l5DivSmall_L0r N next k0) n v129 v130 v131 v132 v133
theorem spec_l5DivSmall_L0.ex : ∃ f : ((α : Type) → Nat → Nat → List Int → Int → Int → Int → List Int → (Int → List Int → Option α) → Option α), f = fun α => @spec_l5DivSmall_L0.b α := ⟨_, rfl⟩
noncomputable def spec_l5DivSmall_L0 {α : Type} : Nat → Nat → List Int → Int → Int → Int → List Int → (Int → List Int → Option α) → Option α := Classical.choose spec_l5DivSmall_L0.ex α
theorem spec_l5DivSmall_L0.eq : @spec_l5DivSmall_L0 = @spec_l5DivSmall_L0.b := funext fun α => congrFun (Classical.choose_spec spec_l5DivSmall_L0.ex) α
theorem spec_l5DivSmall_L0.zero {α : Type} (N : Nat) (v129 : List Int) (v130 : Int) (v131 : Int) (v132 : Int) (v133 : List Int) (k0 : Int → List Int → Option α) : spec_l5DivSmall_L0 N 0 v129 v130 v131 v132 v133 k0 = none := by rw [spec_l5DivSmall_L0.eq]; rfl
theorem spec_l5DivSmall_L0.succ {α : Type} (N n : Nat) (v129 : List Int) (v130 : Int) (v131 : Int) (v132 : Int) (v133 : List Int) (k0 : Int → List Int → Option α) : spec_l5DivSmall_L0 N (n + 1) v129 v130 v131 v132 v133 k0 = spec_l5DivSmall_L0r N (fun y0 y1 y2 y3 y4 => spec_l5DivSmall_L0 N n y0 y1 y2 y3 y4 k0) k0 v129 v130 v131 v132 v133 := by rw [spec_l5DivSmall_L0.eq]; rfl
/-- spec.l5DivSmall -/
noncomputable def spec_l5DivSmall.b {α : Type} (N : Nat) (a123 : List Int) (a124 : Int) (k0 : Int → List Int → Option α) : Option α :=
 let x125 := ((a123.length : Nat) : Int)
 bif (decide ((0 : Int) ≤ x125)) then
  bif decide (x125 ≤ x125) then
   bif (decide (x125 ≤ ((8796093022208 : Nat) : Int))) then
    let x126 := (List.replicate x125.toNat (0 : Int))
    let x127 := ((a123.length : Nat) : Int)
    let x128 := (IntKind.i64.wrap (x127 - (1 : Int)))
    spec_l5DivSmall_L0 N N a123 a124 (0 : Int) x128 x126
     (fun x143 x144 =>
      spec_l5Trim N x144
       (fun x145 =>
        k0 x143 x145))
   else
    none
  else
   none
 else
  none
theorem spec_l5DivSmall.ex : ∃ f : ((α : Type) → Nat → List Int → Int → (Int → List Int → Option α) → Option α), f = fun α => @spec_l5DivSmall.b α := ⟨_, rfl⟩
noncomputable def spec_l5DivSmall {α : Type} : Nat → List Int → Int → (Int → List Int → Option α) → Option α := Classical.choose spec_l5DivSmall.ex α
theorem spec_l5DivSmall.eq : @spec_l5DivSmall = @spec_l5DivSmall.b := funext fun α => congrFun (Classical.choose_spec spec_l5DivSmall.ex) α

noncomputable def spec_NatOf_L0r {α : Type} (N : Nat) (next : Int → List Int → Option α) (k0 : List Int → Option α) (v150 : Int) (v151 : List Int) : Option α :=
 let x152 := (decide ((0 : Int) < v150))
 bif x152 then
  let x153 := (Int.tmod v150 (65536 : Int))
  let x154 := IntKind.i64.wrap x153
  let x155 := [x154]
  bif decide (v151.length + x155.length ≤ 8796093022208) then
   let x156 := v151 ++ x155
   let x157 := (IntKind.u64.wrap (Int.tdiv v150 (65536 : Int)))
   next x157 x156
  else
   none
 else
  k0 v151
noncomputable def spec_NatOf_L0.b {α : Type} (N n : Nat) (v150 : Int) (v151 : List Int) (k0 : List Int → Option α) : Option α :=
  Nat.rec (motive := fun _ => Int → List Int → Option α) (fun _ _ => none) (fun _ next => spec_NatOf_L0r N next k0) n v150 v151
theorem spec_NatOf_L0.ex : ∃ f : ((α : Type) → Nat → Nat → Int → List Int → (List Int → Option α) → Option α), f = fun α => @spec_NatOf_L0.b α := ⟨_, rfl⟩
noncomputable def spec_NatOf_L0 {α : Type} : Nat → Nat → Int → List Int → (List Int → Option α) → Option α := Classical.choose spec_NatOf_L0.ex α
theorem spec_NatOf_L0.eq : @spec_NatOf_L0 = @spec_NatOf_L0.b := funext fun α => congrFun (Classical.choose_spec spec_NatOf_L0.ex) α
theorem spec_NatOf_L0.zero {α : Type} (N : Nat) (v150 : Int) (v151 : List Int) (k0 : List Int → Option α) : spec_NatOf_L0 N 0 v150 v151 k0 = none := by rw [spec_NatOf_L0.eq]; rfl
theorem spec_NatOf_L0.succ {α : Type} (N n : Nat) (v150 : Int) (v151 : List Int) (k0 : List Int → Option α) : spec_NatOf_L0 N (n + 1) v150 v151 k0 = spec_NatOf_L0r N (fun y0 y1 => spec_NatOf_L0 N n y0 y1 k0) k0 v150 v151 := by rw [spec_NatOf_L0.eq]; rfl
/-- spec.NatOf -/
noncomputable def spec_NatOf.b {α : Type} (N : Nat) (a149 : Int) (k0 : List Int → Option α) : Option α :=
 spec_NatOf_L0 N N a149 []
  (fun x158 =>
   k0 x158)
theorem spec_NatOf.ex : ∃ f : ((α : Type) → Nat → Int → (List Int → Option α) → Option α), f = fun α => @spec_NatOf.b α := ⟨_, rfl⟩
noncomputable def spec_NatOf {α : Type} : Nat → Int → (List Int → Option α) → Option α := Classical.choose spec_NatOf.ex α
theorem spec_NatOf.eq : @spec_NatOf = @spec_NatOf.b := funext fun α => congrFun (Classical.choose_spec spec_NatOf.ex) α

noncomputable def spec_l5Mul_L2r {α : Type} (N : Nat) (next : List Int → List Int → Int → Int → Int → List Int → Option α) (k0 : List Int → List Int → Int → Int → List Int → Option α) (v181 : List Int) (v182 : List Int) (v183 : Int) (v184 : Int) (v185 : Int) (v186 : List Int) : Option α :=
 let x187 := ((v182.length : Nat) : Int)
 let x188 := decide (v185 < x187)
 bif x188 then
  let x189 := IntKind.i64.wrap (v183 + v185)
  bif (decide (x189 < (0 : Int))) then
   none
  else
   bif decide (x189.toNat < v186.length) then
    match v186[x189.toNat]? with
    | some x190 =>
     bif (decide (v183 < (0 : Int))) then
      none
     else
      match v181[v183.toNat]? with
      | some x191 =>
       bif (decide (v185 < (0 : Int))) then
        none
       else
        match v182[v185.toNat]? with
        | some x192 =>
         let x193 := IntKind.i64.wrap (x191 * x192)
         let x194 := IntKind.i64.wrap (x190 + x193)
         let x195 := IntKind.i64.wrap (x194 + v184)
         let x196 := IntKind.i64.wrap (v183 + v185)
         let x197 := (Int.tmod x195 (65536 : Int))
         bif (decide (x196 < (0 : Int))) then
          none
         else
          bif decide (x196.toNat < v186.length) then
           match v186[x196.toNat]? with
           | some x198 =>
            let x199 := v186.set x196.toNat x197
            let x200 := (IntKind.i64.wrap (Int.tdiv x195 (65536 : Int)))
            let x201 := (IntKind.i64.wrap (v185 + (1 : Int)))
            next v181 v182 v183 x200 x201 x199
           | none => none
          else
           none
        | none => none
      | none => none
    | none => none
   else
    none
 else
  k0 v181 v182 v183 v184 v186
noncomputable def spec_l5Mul_L2.b {α : Type} (N n : Nat) (v181 : List Int) (v182 : List Int) (v183 : Int) (v184 : Int) (v185 : Int) (v186 : List Int) (k0 : List Int → List Int → Int → Int → List Int → Option α) : Option α :=
  Nat.rec (motive := fun _ => List Int → List Int → Int → Int → Int → List Int → Option α) (fun _ _ _ _ _ _ => none) (fun _ next => spec_l5Mul_L2r N next k0) n v181 v182 v183 v184 v185 v186
theorem spec_l5Mul_L2.ex : ∃ f : ((α : Type) → Nat → Nat → List Int → List Int → Int → Int → Int → List Int → (List Int → List Int → Int → Int → List Int → Option α) → Option α), f = fun α => @spec_l5Mul_L2.b α := ⟨_, rfl⟩
noncomputable def spec_l5Mul_L2 {α : Type} : Nat → Nat → List Int → List Int → Int → Int → Int → List Int → (List Int → List Int → Int → Int → List Int → Option α) → Option α := Classical.choose spec_l5Mul_L2.ex α
theorem spec_l5Mul_L2.eq : @spec_l5Mul_L2 = @spec_l5Mul_L2.b := funext fun α => congrFun (Classical.choose_spec spec_l5Mul_L2.ex) α
theorem spec_l5Mul_L2.zero {α : Type} (N : Nat) (v181 : List Int) (v182 : List Int) (v183 : Int) (v184 : Int) (v185 : Int) (v186 : List Int) (k0 : List Int → List Int → Int → Int → List Int → Option α) : spec_l5Mul_L2 N 0 v181 v182 v183 v184 v185 v186 k0 = none := by rw [spec_l5Mul_L2.eq]; rfl
theorem spec_l5Mul_L2.succ {α : Type} (N n : Nat) (v181 : List Int) (v182 : List Int) (v183 : Int) (v184 : Int) (v185 : Int) (v186 : List Int) (k0 : List Int → List Int → Int → Int → List Int → Option α) : spec_l5Mul_L2 N (n + 1) v181 v182 v183 v184 v185 v186 k0 = spec_l5Mul_L2r N (fun y0 y1 y2 y3 y4 y5 => spec_l5Mul_L2 N n y0 y1 y2 y3 y4 y5 k0) k0 v181 v182 v183 v184 v185 v186 := by rw [spec_l5Mul_L2.eq]; rfl
noncomputable def spec_l5Mul_L0r {α : Type} (N : Nat) (next : List Int → List Int → Int → List Int → Option α) (k0 : List Int → Option α) (v175 : List Int) (v176 : List Int) (v177 : Int) (v178 : List Int) : Option α :=
 let x179 := ((v175.length : Nat) : Int)
 let x180 := decide (v177 < x179)
 bif x180 then
  spec_l5Mul_L2 N N v175 v176 v177 (0 : Int) (0 : Int) v178
   (fun x202 x203 x204 x205 x206 =>
    let x207 := ((x203.length : Nat) : Int)
    let x208 := IntKind.i64.wrap (x204 + x207)
    bif (decide (x208 < (0 : Int))) then
     none
    else
     bif decide (x208.toNat < x206.length) then
      match x206[x208.toNat]? with
      | some x209 =>
       let x210 := x206.set x208.toNat x205
       let x211 := (IntKind.i64.wrap (x204 + (1 : Int)))
       next x202 x203 x211 x210
      | none => none
     else
      none)
 else
  k0 v178
noncomputable def spec_l5Mul_L0.b {α : Type} (N n : Nat) (v175 : List Int) (v176 : List Int) (v177 : Int) (v178 : List Int) (k0 : List Int → Option α) : Option α :=
  Nat.rec (motive := fun _ => List Int → List Int → Int → List Int → Option α) (fun _ _ _ _ => none) (fun _ next => spec_l5Mul_L0r N next k0) n v175 v176 v177 v178
theorem spec_l5Mul_L0.ex : ∃ f : ((α : Type) → Nat → Nat → List Int → List Int → Int → List Int → (List Int → Option α) → Option α), f = fun α => @spec_l5Mul_L0.b α := ⟨_, rfl⟩
noncomputable def spec_l5Mul_L0 {α : Type} : Nat → Nat → List Int → List Int → Int → List Int → (List Int → Option α) → Option α := Classical.choose spec_l5Mul_L0.ex α
theorem spec_l5Mul_L0.eq : @spec_l5Mul_L0 = @spec_l5Mul_L0.b := funext fun α => congrFun (Classical.choose_spec spec_l5Mul_L0.ex) α
theorem spec_l5Mul_L0.zero {α : Type} (N : Nat) (v175 : List Int) (v176 : List Int) (v177 : Int) (v178 : List Int) (k0 : List Int → Option α) : spec_l5Mul_L0 N 0 v175 v176 v177 v178 k0 = none := by rw [spec_l5Mul_L0.eq]; rfl
theorem spec_l5Mul_L0.succ {α : Type} (N n : Nat) (v175 : List Int) (v176 : List Int) (v177 : Int) (v178 : List Int) (k0 : List Int → Option α) : spec_l5Mul_L0 N (n + 1) v175 v176 v177 v178 k0 = spec_l5Mul_L0r N (fun y0 y1 y2 y3 => spec_l5Mul_L0 N n y0 y1 y2 y3 k0) k0 v175 v176 v177 v178 := by rw [spec_l5Mul_L0.eq]; rfl
/-- spec.l5Mul -/
noncomputable def spec_l5Mul.b {α : Type} (N : Nat) (a169 : List Int) (a170 : List Int) (k0 : List Int → Option α) : Option α :=
 let x171 := ((a169.length : Nat) : Int)
 let x172 := ((a170.length : Nat) : Int)
 let x173 := IntKind.i64.wrap (x171 + x172)
 bif (decide ((0 : Int) ≤ x173)) then
  bif decide (x173 ≤ x173) then
   bif (decide (x173 ≤ ((8796093022208 : Nat) : Int))) then
    let x174 := (List.replicate x173.toNat (0 : Int))
    spec_l5Mul_L0 N N a169 a170 (0 : Int) x174
     (fun x212 =>
      spec_l5Trim N x212
       (fun x213 =>
        k0 x213))
   else
    none
  else
   none
 else
  none
theorem spec_l5Mul.ex : ∃ f : ((α : Type) → Nat → List Int → List Int → (List Int → Option α) → Option α), f = fun α => @spec_l5Mul.b α := ⟨_, rfl⟩
noncomputable def spec_l5Mul {α : Type} : Nat → List Int → List Int → (List Int → Option α) → Option α := Classical.choose spec_l5Mul.ex α
theorem spec_l5Mul.eq : @spec_l5Mul = @spec_l5Mul.b := funext fun α => congrFun (Classical.choose_spec spec_l5Mul.ex) α

/-- spec.l5Times -/
noncomputable def spec_l5Times.b {α : Type} (N : Nat) (a165 : List Int) (a166 : Int) (k0 : List Int → Option α) : Option α :=
 let x167 := (decide (a166 = (0 : Int)))
 bif x167 then
  k0 []
 else
  let x168 := [a166]
  spec_l5Mul N a165 x168
   (fun x214 =>
    k0 x214)
theorem spec_l5Times.ex : ∃ f : ((α : Type) → Nat → List Int → Int → (List Int → Option α) → Option α), f = fun α => @spec_l5Times.b α := ⟨_, rfl⟩
noncomputable def spec_l5Times {α : Type} : Nat → List Int → Int → (List Int → Option α) → Option α := Classical.choose spec_l5Times.ex α
theorem spec_l5Times.eq : @spec_l5Times = @spec_l5Times.b := funext fun α => congrFun (Classical.choose_spec spec_l5Times.ex) α

noncomputable def spec_l5Top_L0r {α : Type} (N : Nat) (next : List Int → Int → List Int → Option α) (k0 : List Int → Option α) (v227 : List Int) (v228 : Int) (v229 : List Int) : Option α :=
 let x230 := ((v227.length : Nat) : Int)
 let x231 := decide (v228 < x230)
 bif x231 then
  bif (decide (v228 < (0 : Int))) then
   none
  else
   match v227[v228.toNat]? with
   | some x232 =>
    let x233 := [x232]
    bif decide (v229.length + x233.length ≤ 8796093022208) then
     let x234 := v229 ++ x233
     let x235 := (IntKind.i64.wrap (v228 + (1 : Int)))
     next v227 x235 x234
    else
     none
   | none => none
 else
  k0 v229
noncomputable def spec_l5Top_L0.b {α : Type} (N n : Nat) (v227 : List Int) (v228 : Int) (v229 : List Int) (k0 : List Int → Option α) : Option α :=
  Nat.rec (motive := fun _ => List Int → Int → List Int → Option α) (fun _ _ _ => none) (fun _ next => spec_l5Top_L0r N next k0) n v227 v228 v229
theorem spec_l5Top_L0.ex : ∃ f : ((α : Type) → Nat → Nat → List Int → Int → List Int → (List Int → Option α) → Option α), f = fun α => @spec_l5Top_L0.b α := ⟨_, rfl⟩
noncomputable def spec_l5Top_L0 {α : Type} : Nat → Nat → List Int → Int → List Int → (List Int → Option α) → Option α := Classical.choose spec_l5Top_L0.ex α
theorem spec_l5Top_L0.eq : @spec_l5Top_L0 = @spec_l5Top_L0.b := funext fun α => congrFun (Classical.choose_spec spec_l5Top_L0.ex) α
theorem spec_l5Top_L0.zero {α : Type} (N : Nat) (v227 : List Int) (v228 : Int) (v229 : List Int) (k0 : List Int → Option α) : spec_l5Top_L0 N 0 v227 v228 v229 k0 = none := by rw [spec_l5Top_L0.eq]; rfl
theorem spec_l5Top_L0.succ {α : Type} (N n : Nat) (v227 : List Int) (v228 : Int) (v229 : List Int) (k0 : List Int → Option α) : spec_l5Top_L0 N (n + 1) v227 v228 v229 k0 = spec_l5Top_L0r N (fun y0 y1 y2 => spec_l5Top_L0 N n y0 y1 y2 k0) k0 v227 v228 v229 := by rw [spec_l5Top_L0.eq]; rfl
/-- spec.l5Top -/
noncomputable def spec_l5Top.b {α : Type} (N : Nat) (a225 : List Int) (a226 : Int) (k0 : List Int → Option α) : Option α :=
 spec_l5Top_L0 N N a225 a226 []
  (fun x236 =>
   k0 x236)
theorem spec_l5Top.ex : ∃ f : ((α : Type) → Nat → List Int → Int → (List Int → Option α) → Option α), f = fun α => @spec_l5Top.b α := ⟨_, rfl⟩
noncomputable def spec_l5Top {α : Type} : Nat → List Int → Int → (List Int → Option α) → Option α := Classical.choose spec_l5Top.ex α
theorem spec_l5Top.eq : @spec_l5Top = @spec_l5Top.b := funext fun α => congrFun (Classical.choose_spec spec_l5Top.ex) α

noncomputable def spec_l5Shl_L0r {α : Type} (N : Nat) (next : List Int → Int → List Int → Option α) (k0 : List Int → Option α) (v253 : List Int) (v254 : Int) (v255 : List Int) : Option α :=
 let x256 := ((v253.length : Nat) : Int)
 let x257 := decide (v254 < x256)
 bif x257 then
  bif (decide (v254 < (0 : Int))) then
   none
  else
   match v253[v254.toNat]? with
   | some x258 =>
    let x259 := [x258]
    bif decide (v255.length + x259.length ≤ 8796093022208) then
     let x260 := v255 ++ x259
     let x261 := (IntKind.i64.wrap (v254 + (1 : Int)))
     next v253 x261 x260
    else
     none
   | none => none
 else
  k0 v255
noncomputable def spec_l5Shl_L0.b {α : Type} (N n : Nat) (v253 : List Int) (v254 : Int) (v255 : List Int) (k0 : List Int → Option α) : Option α :=
  Nat.rec (motive := fun _ => List Int → Int → List Int → Option α) (fun _ _ _ => none) (fun _ next => spec_l5Shl_L0r N next k0) n v253 v254 v255
theorem spec_l5Shl_L0.ex : ∃ f : ((α : Type) → Nat → Nat → List Int → Int → List Int → (List Int → Option α) → Option α), f = fun α => @spec_l5Shl_L0.b α := ⟨_, rfl⟩
noncomputable def spec_l5Shl_L0 {α : Type} : Nat → Nat → List Int → Int → List Int → (List Int → Option α) → Option α := Classical.choose spec_l5Shl_L0.ex α
theorem spec_l5Shl_L0.eq : @spec_l5Shl_L0 = @spec_l5Shl_L0.b := funext fun α => congrFun (Classical.choose_spec spec_l5Shl_L0.ex) α
theorem spec_l5Shl_L0.zero {α : Type} (N : Nat) (v253 : List Int) (v254 : Int) (v255 : List Int) (k0 : List Int → Option α) : spec_l5Shl_L0 N 0 v253 v254 v255 k0 = none := by rw [spec_l5Shl_L0.eq]; rfl
theorem spec_l5Shl_L0.succ {α : Type} (N n : Nat) (v253 : List Int) (v254 : Int) (v255 : List Int) (k0 : List Int → Option α) : spec_l5Shl_L0 N (n + 1) v253 v254 v255 k0 = spec_l5Shl_L0r N (fun y0 y1 y2 => spec_l5Shl_L0 N n y0 y1 y2 k0) k0 v253 v254 v255 := by rw [spec_l5Shl_L0.eq]; rfl
/-- spec.l5Shl -/
noncomputable def spec_l5Shl.b {α : Type} (N : Nat) (a248 : List Int) (a249 : Int) (k0 : List Int → Option α) : Option α :=
 let x250 := ((a248.length : Nat) : Int)
 let x251 := (decide (x250 = (0 : Int)))
 bif x251 then
  k0 []
 else
  bif (decide ((0 : Int) ≤ a249)) then
   bif decide (a249 ≤ a249) then
    bif (decide (a249 ≤ ((8796093022208 : Nat) : Int))) then
     let x252 := (List.replicate a249.toNat (0 : Int))
     spec_l5Shl_L0 N N a248 (0 : Int) x252
      (fun x262 =>
       k0 x262)
    else
     none
   else
    none
  else
   none
theorem spec_l5Shl.ex : ∃ f : ((α : Type) → Nat → List Int → Int → (List Int → Option α) → Option α), f = fun α => @spec_l5Shl.b α := ⟨_, rfl⟩
noncomputable def spec_l5Shl {α : Type} : Nat → List Int → Int → (List Int → Option α) → Option α := Classical.choose spec_l5Shl.ex α
theorem spec_l5Shl.eq : @spec_l5Shl = @spec_l5Shl.b := funext fun α => congrFun (Classical.choose_spec spec_l5Shl.ex) α

/-- spec.l5At -/
noncomputable def spec_l5At.b {α : Type} (N : Nat) (a286 : List Int) (a287 : Int) (k0 : Int → Option α) : Option α :=
 let x288 := ((a286.length : Nat) : Int)
 let x289 := decide (a287 < x288)
 bif x289 then
  bif (decide (a287 < (0 : Int))) then
   none
  else
   match a286[a287.toNat]? with
   | some x290 =>
    k0 x290
   | none => none
 else
  k0 (0 : Int)
theorem spec_l5At.ex : ∃ f : ((α : Type) → Nat → List Int → Int → (Int → Option α) → Option α), f = fun α => @spec_l5At.b α := ⟨_, rfl⟩
noncomputable def spec_l5At {α : Type} : Nat → List Int → Int → (Int → Option α) → Option α := Classical.choose spec_l5At.ex α
theorem spec_l5At.eq : @spec_l5At = @spec_l5At.b := funext fun α => congrFun (Classical.choose_spec spec_l5At.ex) α

noncomputable def spec_l5Add_J2.b {α : Type} (N : Nat) (v270 : List Int) (v271 : List Int) (v272 : Int) (k0 : List Int → List Int → Int → Option α) : Option α :=
 let x273 := ((v271.length : Nat) : Int)
 let x274 := decide (v272 < x273)
 bif x274 then
  let x275 := ((v271.length : Nat) : Int)
  k0 v270 v271 x275
 else
  k0 v270 v271 v272
theorem spec_l5Add_J2.ex : ∃ f : ((α : Type) → Nat → List Int → List Int → Int → (List Int → List Int → Int → Option α) → Option α), f = fun α => @spec_l5Add_J2.b α := ⟨_, rfl⟩
noncomputable def spec_l5Add_J2 {α : Type} : Nat → List Int → List Int → Int → (List Int → List Int → Int → Option α) → Option α := Classical.choose spec_l5Add_J2.ex α
theorem spec_l5Add_J2.eq : @spec_l5Add_J2 = @spec_l5Add_J2.b := funext fun α => congrFun (Classical.choose_spec spec_l5Add_J2.ex) α
noncomputable def spec_l5Add_L0r {α : Type} (N : Nat) (next : List Int → List Int → Int → Int → Int → List Int → Option α) (k0 : Int → List Int → Option α) (v279 : List Int) (v280 : List Int) (v281 : Int) (v282 : Int) (v283 : Int) (v284 : List Int) : Option α :=
 let x285 := decide (v283 < v281)
 bif x285 then
  spec_l5At N v279 v283
   (fun x291 =>
    spec_l5At N v280 v283
     (fun x292 =>
      let x293 := IntKind.i64.wrap (x291 + x292)
      let x294 := IntKind.i64.wrap (x293 + v282)
      let x295 := (Int.tmod x294 (65536 : Int))
      let x296 := [x295]
      bif decide (v284.length + x296.length ≤ 8796093022208) then
       let x297 := v284 ++ x296
       let x298 := (IntKind.i64.wrap (Int.tdiv x294 (65536 : Int)))
       let x299 := (IntKind.i64.wrap (v283 + (1 : Int)))
       next v279 v280 v281 x298 x299 x297
      else
       none))
 else
  k0 v282 v284
noncomputable def spec_l5Add_L0.b {α : Type} (N n : Nat) (v279 : List Int) (v280 : List Int) (v281 : Int) (v282 : Int) (v283 : Int) (v284 : List Int) (k0 : Int → List Int → Option α) : Option α :=
  Nat.rec (motive := fun _ => List Int → List Int → Int → Int → Int → List Int → Option α) (fun _ _ _ _ _ _ => none) (fun _ next => spec_l5Add_L0r N next k0) n v279 v280 v281 v282 v283 v284
theorem spec_l5Add_L0.ex : ∃ f : ((α : Type) → Nat → Nat → List Int → List Int → Int → Int → Int → List Int → (Int → List Int → Option α) → Option α), f = fun α => @spec_l5Add_L0.b α := ⟨_, rfl⟩
noncomputable def spec_l5Add_L0 {α : Type} : Nat → Nat → List Int → List Int → Int → Int → Int → List Int → (Int → List Int → Option α) → Option α := Classical.choose spec_l5Add_L0.ex α
theorem spec_l5Add_L0.eq : @spec_l5Add_L0 = @spec_l5Add_L0.b := funext fun α => congrFun (Classical.choose_spec spec_l5Add_L0.ex) α
theorem spec_l5Add_L0.zero {α : Type} (N : Nat) (v279 : List Int) (v280 : List Int) (v281 : Int) (v282 : Int) (v283 : Int) (v284 : List Int) (k0 : Int → List Int → Option α) : spec_l5Add_L0 N 0 v279 v280 v281 v282 v283 v284 k0 = none := by rw [spec_l5Add_L0.eq]; rfl
theorem spec_l5Add_L0.succ {α : Type} (N n : Nat) (v279 : List Int) (v280 : List Int) (v281 : Int) (v282 : Int) (v283 : Int) (v284 : List Int) (k0 : Int → List Int → Option α) : spec_l5Add_L0 N (n + 1) v279 v280 v281 v282 v283 v284 k0 = spec_l5Add_L0r N (fun y0 y1 y2 y3 y4 y5 => spec_l5Add_L0 N n y0 y1 y2 y3 y4 y5 k0) k0 v279 v280 v281 v282 v283 v284 := by rw [spec_l5Add_L0.eq]; rfl
noncomputable def spec_l5Add_J12.b {α : Type} (N : Nat) (v302 : Int) (v303 : List Int) (k0 : List Int → Option α) : Option α :=
 let x304 := (decide ((0 : Int) < v302))
 bif x304 then
  let x305 := [v302]
  bif decide (v303.length + x305.length ≤ 8796093022208) then
   let x306 := v303 ++ x305
   k0 x306
  else
   none
 else
  k0 v303
theorem spec_l5Add_J12.ex : ∃ f : ((α : Type) → Nat → Int → List Int → (List Int → Option α) → Option α), f = fun α => @spec_l5Add_J12.b α := ⟨_, rfl⟩
noncomputable def spec_l5Add_J12 {α : Type} : Nat → Int → List Int → (List Int → Option α) → Option α := Classical.choose spec_l5Add_J12.ex α
theorem spec_l5Add_J12.eq : @spec_l5Add_J12 = @spec_l5Add_J12.b := funext fun α => congrFun (Classical.choose_spec spec_l5Add_J12.ex) α
/-- spec.l5Add -/
noncomputable def spec_l5Add.b {α : Type} (N : Nat) (a267 : List Int) (a268 : List Int) (k0 : List Int → Option α) : Option α :=
 let x269 := ((a267.length : Nat) : Int)
 spec_l5Add_J2 N a267 a268 x269
  (fun x276 x277 x278 =>
   spec_l5Add_L0 N N x276 x277 x278 (0 : Int) (0 : Int) []
    (fun x300 x301 =>
     spec_l5Add_J12 N x300 x301
      (fun x307 =>
       k0 x307)))
theorem spec_l5Add.ex : ∃ f : ((α : Type) → Nat → List Int → List Int → (List Int → Option α) → Option α), f = fun α => @spec_l5Add.b α := ⟨_, rfl⟩
noncomputable def spec_l5Add {α : Type} : Nat → List Int → List Int → (List Int → Option α) → Option α := Classical.choose spec_l5Add.ex α
theorem spec_l5Add.eq : @spec_l5Add = @spec_l5Add.b := funext fun α => congrFun (Classical.choose_spec spec_l5Add.ex) α

noncomputable def spec_l5Sub_J8.b {α : Type} (N : Nat) (v360 : List Int) (v361 : List Int) (v362 : Int) (v363 : Int) (v364 : Int) (v365 : List Int) (k0 : List Int → List Int → Int → Int → Int → List Int → Option α) : Option α :=
 let x366 := (decide (v364 < (0 : Int)))
 bif x366 then
  let x367 := (IntKind.i64.wrap (v364 + (65536 : Int)))
  k0 v360 v361 (1 : Int) v363 x367 v365
 else
  k0 v360 v361 v362 v363 v364 v365
theorem spec_l5Sub_J8.ex : ∃ f : ((α : Type) → Nat → List Int → List Int → Int → Int → Int → List Int → (List Int → List Int → Int → Int → Int → List Int → Option α) → Option α), f = fun α => @spec_l5Sub_J8.b α := ⟨_, rfl⟩
noncomputable def spec_l5Sub_J8 {α : Type} : Nat → List Int → List Int → Int → Int → Int → List Int → (List Int → List Int → Int → Int → Int → List Int → Option α) → Option α := Classical.choose spec_l5Sub_J8.ex α
theorem spec_l5Sub_J8.eq : @spec_l5Sub_J8 = @spec_l5Sub_J8.b := funext fun α => congrFun (Classical.choose_spec spec_l5Sub_J8.ex) α
noncomputable def spec_l5Sub_L0r {α : Type} (N : Nat) (next : List Int → List Int → Int → Int → List Int → Option α) (k0 : List Int → Option α) (v349 : List Int) (v350 : List Int) (v351 : Int) (v352 : Int) (v353 : List Int) : Option α :=
 let x354 := ((v349.length : Nat) : Int)
 let x355 := decide (v352 < x354)
 bif x355 then
  bif (decide (v352 < (0 : Int))) then
   none
  else
   match v349[v352.toNat]? with
   | some x356 =>
    spec_l5At N v350 v352
     (fun x357 =>
      let x358 := IntKind.i64.wrap (x356 - x357)
      let x359 := IntKind.i64.wrap (x358 - v351)
      spec_l5Sub_J8 N v349 v350 (0 : Int) v352 x359 v353
       (fun x368 x369 x370 x371 x372 x373 =>
        let x374 := [x372]
        bif decide (x373.length + x374.length ≤ 8796093022208) then
         let x375 := x373 ++ x374
         let x376 := (IntKind.i64.wrap (x371 + (1 : Int)))
         next x368 x369 x370 x376 x375
        else
         none))
   | none => none
 else
  k0 v353
noncomputable def spec_l5Sub_L0.b {α : Type} (N n : Nat) (v349 : List Int) (v350 : List Int) (v351 : Int) (v352 : Int) (v353 : List Int) (k0 : List Int → Option α) : Option α :=
  Nat.rec (motive := fun _ => List Int → List Int → Int → Int → List Int → Option α) (fun _ _ _ _ _ => none) (fun _ next => spec_l5Sub_L0r N next k0) n v349 v350 v351 v352 v353
theorem spec_l5Sub_L0.ex : ∃ f : ((α : Type) → Nat → Nat → List Int → List Int → Int → Int → List Int → (List Int → Option α) → Option α), f = fun α => @spec_l5Sub_L0.b α := ⟨_, rfl⟩
noncomputable def spec_l5Sub_L0 {α : Type} : Nat → Nat → List Int → List Int → Int → Int → List Int → (List Int → Option α) → Option α := Classical.choose spec_l5Sub_L0.ex α
theorem spec_l5Sub_L0.eq : @spec_l5Sub_L0 = @spec_l5Sub_L0.b := funext fun α => congrFun (Classical.choose_spec spec_l5Sub_L0.ex) α
theorem spec_l5Sub_L0.zero {α : Type} (N : Nat) (v349 : List Int) (v350 : List Int) (v351 : Int) (v352 : Int) (v353 : List Int) (k0 : List Int → Option α) : spec_l5Sub_L0 N 0 v349 v350 v351 v352 v353 k0 = none := by rw [spec_l5Sub_L0.eq]; rfl
theorem spec_l5Sub_L0.succ {α : Type} (N n : Nat) (v349 : List Int) (v350 : List Int) (v351 : Int) (v352 : Int) (v353 : List Int) (k0 : List Int → Option α) : spec_l5Sub_L0 N (n + 1) v349 v350 v351 v352 v353 k0 = spec_l5Sub_L0r N (fun y0 y1 y2 y3 y4 => spec_l5Sub_L0 N n y0 y1 y2 y3 y4 k0) k0 v349 v350 v351 v352 v353 := by rw [spec_l5Sub_L0.eq]; rfl
/-- spec.l5Sub -/
noncomputable def spec_l5Sub.b {α : Type} (N : Nat) (a347 : List Int) (a348 : List Int) (k0 : List Int → Option α) : Option α :=
 spec_l5Sub_L0 N N a347 a348 (0 : Int) (0 : Int) []
  (fun x377 =>
   spec_l5Trim N x377
    (fun x378 =>
     k0 x378))
theorem spec_l5Sub.ex : ∃ f : ((α : Type) → Nat → List Int → List Int → (List Int → Option α) → Option α), f = fun α => @spec_l5Sub.b α := ⟨_, rfl⟩
noncomputable def spec_l5Sub {α : Type} : Nat → List Int → List Int → (List Int → Option α) → Option α := Classical.choose spec_l5Sub.ex α
theorem spec_l5Sub.eq : @spec_l5Sub = @spec_l5Sub.b := funext fun α => congrFun (Classical.choose_spec spec_l5Sub.ex) α

noncomputable def spec_l5Div_J17.b {α : Type} (N : Nat) (v318 : Int) (v319 : Int) (v320 : Int) (v321 : Int) (v322 : List Int) (v323 : List Int) (v324 : List Int) (v325 : List Int) (k0 : Int → Int → Int → Int → List Int → List Int → List Int → List Int → Option α) : Option α :=
 let x326 := (decide ((65536 : Int) ≤ v321))
 bif x326 then
  k0 v318 v319 v320 (65535 : Int) v322 v323 v324 v325
 else
  k0 v318 v319 v320 v321 v322 v323 v324 v325
theorem spec_l5Div_J17.ex : ∃ f : ((α : Type) → Nat → Int → Int → Int → Int → List Int → List Int → List Int → List Int → (Int → Int → Int → Int → List Int → List Int → List Int → List Int → Option α) → Option α), f = fun α => @spec_l5Div_J17.b α := ⟨_, rfl⟩
noncomputable def spec_l5Div_J17 {α : Type} : Nat → Int → Int → Int → Int → List Int → List Int → List Int → List Int → (Int → Int → Int → Int → List Int → List Int → List Int → List Int → Option α) → Option α := Classical.choose spec_l5Div_J17.ex α
theorem spec_l5Div_J17.eq : @spec_l5Div_J17 = @spec_l5Div_J17.b := funext fun α => congrFun (Classical.choose_spec spec_l5Div_J17.ex) α
noncomputable def spec_l5Div_L2r {α : Type} (N : Nat) (next : Int → Int → Int → Int → List Int → List Int → List Int → List Int → List Int → Option α) (k0 : Int → Int → Int → Int → List Int → List Int → List Int → List Int → List Int → Option α) (v336 : Int) (v337 : Int) (v338 : Int) (v339 : Int) (v340 : List Int) (v341 : List Int) (v342 : List Int) (v343 : List Int) (v344 : List Int) : Option α :=
 spec_l5Cmp N v344 v343
  (fun x345 =>
   let x346 := (decide ((0 : Int) < x345))
   bif x346 then
    spec_l5Sub N v344 v341
     (fun x379 =>
      let x380 := (IntKind.i64.wrap (v339 - (1 : Int)))
      next v336 v337 v338 x380 v340 v341 v342 v343 x379)
   else
    k0 v336 v337 v338 v339 v340 v341 v342 v343 v344)
noncomputable def spec_l5Div_L2.b {α : Type} (N n : Nat) (v336 : Int) (v337 : Int) (v338 : Int) (v339 : Int) (v340 : List Int) (v341 : List Int) (v342 : List Int) (v343 : List Int) (v344 : List Int) (k0 : Int → Int → Int → Int → List Int → List Int → List Int → List Int → List Int → Option α) : Option α :=
  Nat.rec (motive := fun _ => Int → Int → Int → Int → List Int → List Int → List Int → List Int → List Int → Option α) (fun _ _ _ _ _ _ _ _ _ => none) (fun _ next => spec_l5Div_L2r N next k0) n v336 v337 v338 v339 v340 v341 v342 v343 v344
theorem spec_l5Div_L2.ex : ∃ f : ((α : Type) → Nat → Nat → Int → Int → Int → Int → List Int → List Int → List Int → List Int → List Int → (Int → Int → Int → Int → List Int → List Int → List Int → List Int → List Int → Option α) → Option α), f = fun α => @spec_l5Div_L2.b α := ⟨_, rfl⟩
noncomputable def spec_l5Div_L2 {α : Type} : Nat → Nat → Int → Int → Int → Int → List Int → List Int → List Int → List Int → List Int → (Int → Int → Int → Int → List Int → List Int → List Int → List Int → List Int → Option α) → Option α := Classical.choose spec_l5Div_L2.ex α
theorem spec_l5Div_L2.eq : @spec_l5Div_L2 = @spec_l5Div_L2.b := funext fun α => congrFun (Classical.choose_spec spec_l5Div_L2.ex) α
theorem spec_l5Div_L2.zero {α : Type} (N : Nat) (v336 : Int) (v337 : Int) (v338 : Int) (v339 : Int) (v340 : List Int) (v341 : List Int) (v342 : List Int) (v343 : List Int) (v344 : List Int) (k0 : Int → Int → Int → Int → List Int → List Int → List Int → List Int → List Int → Option α) : spec_l5Div_L2 N 0 v336 v337 v338 v339 v340 v341 v342 v343 v344 k0 = none := by rw [spec_l5Div_L2.eq]; rfl
theorem spec_l5Div_L2.succ {α : Type} (N n : Nat) (v336 : Int) (v337 : Int) (v338 : Int) (v339 : Int) (v340 : List Int) (v341 : List Int) (v342 : List Int) (v343 : List Int) (v344 : List Int) (k0 : Int → Int → Int → Int → List Int → List Int → List Int → List Int → List Int → Option α) : spec_l5Div_L2 N (n + 1) v336 v337 v338 v339 v340 v341 v342 v343 v344 k0 = spec_l5Div_L2r N (fun y0 y1 y2 y3 y4 y5 y6 y7 y8 => spec_l5Div_L2 N n y0 y1 y2 y3 y4 y5 y6 y7 y8 k0) k0 v336 v337 v338 v339 v340 v341 v342 v343 v344 := by rw [spec_l5Div_L2.eq]; rfl
noncomputable def spec_l5Div_L0r {α : Type} (N : Nat) (next : Int → Int → Int → List Int → List Int → List Int → List Int → Option α) (k0 : Int → List Int → List Int → Option α) (v240 : Int) (v241 : Int) (v242 : Int) (v243 : List Int) (v244 : List Int) (v245 : List Int) (v246 : List Int) : Option α :=
 let x247 := (decide ((0 : Int) ≤ v242))
 bif x247 then
  spec_l5Shl N v246 (1 : Int)
   (fun x263 =>
    bif (decide (v242 < (0 : Int))) then
     none
    else
     bif decide (v242.toNat < v243.length) then
      match v243[v242.toNat]? with
      | some x264 =>
       let x265 := IntKind.u64.wrap x264
       spec_NatOf N x265
        (fun x266 =>
         spec_l5Add N x263 x266
          (fun x308 =>
           spec_l5Trim N x308
            (fun x309 =>
             spec_l5At N x309 v241
              (fun x310 =>
               let x311 := (IntKind.i64.wrap (x310 * (65536 : Int)))
               let x312 := (IntKind.i64.wrap (v241 - (1 : Int)))
               spec_l5At N x309 x312
                (fun x313 =>
                 let x314 := IntKind.i64.wrap (x311 + x313)
                 let x315 := (IntKind.i64.wrap (v241 - (1 : Int)))
                 bif (decide (x315 < (0 : Int))) then
                  none
                 else
                  bif decide (x315.toNat < v244.length) then
                   match v244[x315.toNat]? with
                   | some x316 =>
                    bif (decide (x316 = (0 : Int))) then
                     none
                    else
                     let x317 := IntKind.i64.wrap (Int.tdiv x314 x316)
                     spec_l5Div_J17 N v240 v241 v242 x317 v243 v244 v245 x309
                      (fun x327 x328 x329 x330 x331 x332 x333 x334 =>
                       spec_l5Times N x332 x330
                        (fun x335 =>
                         spec_l5Div_L2 N N x327 x328 x329 x330 x331 x332 x333 x334 x335
                          (fun x381 x382 x383 x384 x385 x386 x387 x388 x389 =>
                           bif (decide (x383 < (0 : Int))) then
                            none
                           else
                            bif decide (x383.toNat < x387.length) then
                             match x387[x383.toNat]? with
                             | some x390 =>
                              let x391 := x387.set x383.toNat x384
                              spec_l5Sub N x388 x389
                               (fun x392 =>
                                let x393 := (IntKind.i64.wrap (x383 - (1 : Int)))
                                next x381 x382 x393 x385 x386 x391 x392)
                             | none => none
                            else
                             none)))
                   | none => none
                  else
                   none)))))
      | none => none
     else
      none)
 else
  k0 v240 v245 v246
noncomputable def spec_l5Div_L0.b {α : Type} (N n : Nat) (v240 : Int) (v241 : Int) (v242 : Int) (v243 : List Int) (v244 : List Int) (v245 : List Int) (v246 : List Int) (k0 : Int → List Int → List Int → Option α) : Option α :=
  Nat.rec (motive := fun _ => Int → Int → Int → List Int → List Int → List Int → List Int → Option α) (fun _ _ _ _ _ _ _ => none) (fun _ next => spec_l5Div_L0r N next k0) n v240 v241 v242 v243 v244 v245 v246
theorem spec_l5Div_L0.ex : ∃ f : ((α : Type) → Nat → Nat → Int → Int → Int → List Int → List Int → List Int → List Int → (Int → List Int → List Int → Option α) → Option α), f = fun α => @spec_l5Div_L0.b α := ⟨_, rfl⟩
noncomputable def spec_l5Div_L0 {α : Type} : Nat → Nat → Int → Int → Int → List Int → List Int → List Int → List Int → (Int → List Int → List Int → Option α) → Option α := Classical.choose spec_l5Div_L0.ex α
theorem spec_l5Div_L0.eq : @spec_l5Div_L0 = @spec_l5Div_L0.b := funext fun α => congrFun (Classical.choose_spec spec_l5Div_L0.ex) α
theorem spec_l5Div_L0.zero {α : Type} (N : Nat) (v240 : Int) (v241 : Int) (v242 : Int) (v243 : List Int) (v244 : List Int) (v245 : List Int) (v246 : List Int) (k0 : Int → List Int → List Int → Option α) : spec_l5Div_L0 N 0 v240 v241 v242 v243 v244 v245 v246 k0 = none := by rw [spec_l5Div_L0.eq]; rfl
theorem spec_l5Div_L0.succ {α : Type} (N n : Nat) (v240 : Int) (v241 : Int) (v242 : Int) (v243 : List Int) (v244 : List Int) (v245 : List Int) (v246 : List Int) (k0 : Int → List Int → List Int → Option α) : spec_l5Div_L0 N (n + 1) v240 v241 v242 v243 v244 v245 v246 k0 = spec_l5Div_L0r N (fun y0 y1 y2 y3 y4 y5 y6 => spec_l5Div_L0 N n y0 y1 y2 y3 y4 y5 y6 k0) k0 v240 v241 v242 v243 v244 v245 v246 := by rw [spec_l5Div_L0.eq]; rfl
/-- spec.l5Div -/
noncomputable def spec_l5Div.b {α : Type} (N : Nat) (a93 : List Int) (a94 : List Int) (k0 : List Int → List Int → Option α) : Option α :=
 spec_l5Cmp N a93 a94
  (fun x117 =>
   let x118 := (decide (x117 < (0 : Int)))
   bif x118 then
    spec_l5Trim N a93
     (fun x119 =>
      k0 [] x119)
   else
    let x120 := ((a94.length : Nat) : Int)
    let x121 := (decide (x120 = (1 : Int)))
    bif x121 then
     match a94[0]? with
     | some x122 =>
      spec_l5DivSmall N a93 x122
       (fun x146 x147 =>
        let x148 := IntKind.u64.wrap x146
        spec_NatOf N x148
         (fun x159 =>
          k0 x147 x159))
     | none => none
    else
     let x160 := ((a94.length : Nat) : Int)
     let x161 := (IntKind.i64.wrap (x160 - (1 : Int)))
     bif (decide (x161 < (0 : Int))) then
      none
     else
      match a94[x161.toNat]? with
      | some x162 =>
       let x163 := (IntKind.i64.wrap (x162 + (1 : Int)))
       bif (decide (x163 = (0 : Int))) then
        none
       else
        let x164 := (IntKind.i64.wrap (Int.tdiv (65536 : Int) x163))
        spec_l5Times N a93 x164
         (fun x215 =>
          spec_l5Times N a94 x164
           (fun x216 =>
            let x217 := ((x216.length : Nat) : Int)
            let x218 := ((x215.length : Nat) : Int)
            let x219 := IntKind.i64.wrap (x218 - x217)
            let x220 := (IntKind.i64.wrap (x219 + (1 : Int)))
            bif (decide ((0 : Int) ≤ x220)) then
             bif decide (x220 ≤ x220) then
              bif (decide (x220 ≤ ((8796093022208 : Nat) : Int))) then
               let x221 := (List.replicate x220.toNat (0 : Int))
               let x222 := ((x215.length : Nat) : Int)
               let x223 := IntKind.i64.wrap (x222 - x217)
               let x224 := (IntKind.i64.wrap (x223 + (1 : Int)))
               spec_l5Top N x215 x224
                (fun x237 =>
                 let x238 := ((x215.length : Nat) : Int)
                 let x239 := IntKind.i64.wrap (x238 - x217)
                 spec_l5Div_L0 N N x164 x217 x239 x215 x216 x221 x237
                  (fun x394 x395 x396 =>
                   spec_l5DivSmall N x396 x394
                    (fun _ x398 =>
                     spec_l5Trim N x395
                      (fun x399 =>
                       k0 x399 x398))))
              else
               none
             else
              none
            else
             none))
      | none => none)
theorem spec_l5Div.ex : ∃ f : ((α : Type) → Nat → List Int → List Int → (List Int → List Int → Option α) → Option α), f = fun α => @spec_l5Div.b α := ⟨_, rfl⟩
noncomputable def spec_l5Div {α : Type} : Nat → List Int → List Int → (List Int → List Int → Option α) → Option α := Classical.choose spec_l5Div.ex α
theorem spec_l5Div.eq : @spec_l5Div = @spec_l5Div.b := funext fun α => congrFun (Classical.choose_spec spec_l5Div.ex) α

noncomputable def spec_l5Gcd_L0r {α : Type} (N : Nat) (next : List Int → List Int → Option α) (k0 : List Int → Option α) (v89 : List Int) (v90 : List Int) : Option α :=
 let x91 := ((v90.length : Nat) : Int)
 let x92 := (decide ((0 : Int) < x91))
 bif x92 then
  spec_l5Div N v89 v90
   (fun _ x401 =>
    next v90 x401)
 else
  k0 v89
noncomputable def spec_l5Gcd_L0.b {α : Type} (N n : Nat) (v89 : List Int) (v90 : List Int) (k0 : List Int → Option α) : Option α :=
  Nat.rec (motive := fun _ => List Int → List Int → Option α) (fun _ _ => none) (fun _ next => spec_l5Gcd_L0r N next k0) n v89 v90
theorem spec_l5Gcd_L0.ex : ∃ f : ((α : Type) → Nat → Nat → List Int → List Int → (List Int → Option α) → Option α), f = fun α => @spec_l5Gcd_L0.b α := ⟨_, rfl⟩
noncomputable def spec_l5Gcd_L0 {α : Type} : Nat → Nat → List Int → List Int → (List Int → Option α) → Option α := Classical.choose spec_l5Gcd_L0.ex α
theorem spec_l5Gcd_L0.eq : @spec_l5Gcd_L0 = @spec_l5Gcd_L0.b := funext fun α => congrFun (Classical.choose_spec spec_l5Gcd_L0.ex) α
theorem spec_l5Gcd_L0.zero {α : Type} (N : Nat) (v89 : List Int) (v90 : List Int) (k0 : List Int → Option α) : spec_l5Gcd_L0 N 0 v89 v90 k0 = none := by rw [spec_l5Gcd_L0.eq]; rfl
theorem spec_l5Gcd_L0.succ {α : Type} (N n : Nat) (v89 : List Int) (v90 : List Int) (k0 : List Int → Option α) : spec_l5Gcd_L0 N (n + 1) v89 v90 k0 = spec_l5Gcd_L0r N (fun y0 y1 => spec_l5Gcd_L0 N n y0 y1 k0) k0 v89 v90 := by rw [spec_l5Gcd_L0.eq]; rfl
/-- spec.l5Gcd -/
noncomputable def spec_l5Gcd.b {α : Type} (N : Nat) (a64 : List Int) (a65 : List Int) (k0 : List Int → Option α) : Option α :=
 spec_l5Trim N a64
  (fun x87 =>
   spec_l5Trim N a65
    (fun x88 =>
     spec_l5Gcd_L0 N N x87 x88
      (fun x402 =>
       k0 x402)))
theorem spec_l5Gcd.ex : ∃ f : ((α : Type) → Nat → List Int → List Int → (List Int → Option α) → Option α), f = fun α => @spec_l5Gcd.b α := ⟨_, rfl⟩
noncomputable def spec_l5Gcd {α : Type} : Nat → List Int → List Int → (List Int → Option α) → Option α := Classical.choose spec_l5Gcd.ex α
theorem spec_l5Gcd.eq : @spec_l5Gcd = @spec_l5Gcd.b := funext fun α => congrFun (Classical.choose_spec spec_l5Gcd.ex) α

/-- spec.l6One -/
noncomputable def spec_l6One.b {α : Type} (N : Nat) (a404 : List Int) (k0 : Bool → Option α) : Option α :=
 let x405 := ((a404.length : Nat) : Int)
 let x406 := (decide (x405 = (1 : Int)))
 bif x406 then
  match a404[0]? with
  | some x407 =>
   let x408 := (decide (x407 = (1 : Int)))
   k0 x408
  | none => none
 else
  k0 false
theorem spec_l6One.ex : ∃ f : ((α : Type) → Nat → List Int → (Bool → Option α) → Option α), f = fun α => @spec_l6One.b α := ⟨_, rfl⟩
noncomputable def spec_l6One {α : Type} : Nat → List Int → (Bool → Option α) → Option α := Classical.choose spec_l6One.ex α
theorem spec_l6One.eq : @spec_l6One = @spec_l6One.b := funext fun α => congrFun (Classical.choose_spec spec_l6One.ex) α

/-- spec.FracOk -/
noncomputable def spec_FracOk.b {α : Type} (N : Nat) (a35 : Bool × (List Int) × (List Int) × Unit) (k0 : Bool → Option α) : Option α :=
 spec_NatOk N a35.2.1
  (fun x56 =>
   let x57 := !x56
   bif x57 then
    k0 false
   else
    spec_NatOk N a35.2.2.1
     (fun x58 =>
      let x59 := !x58
      bif x59 then
       k0 false
      else
       let x60 := ((a35.2.2.1.length : Nat) : Int)
       let x61 := (decide (x60 = (0 : Int)))
       bif x61 then
        k0 false
       else
        let x62 := ((a35.2.1.length : Nat) : Int)
        let x63 := (decide (x62 = (0 : Int)))
        bif x63 then
         bif a35.1 then
          k0 false
         else
          spec_l5Gcd N a35.2.1 a35.2.2.1
           (fun x403 =>
            spec_l6One N x403
             (fun x409 =>
              k0 x409))
        else
         spec_l5Gcd N a35.2.1 a35.2.2.1
          (fun x410 =>
           spec_l6One N x410
            (fun x411 =>
             k0 x411))))
theorem spec_FracOk.ex : ∃ f : ((α : Type) → Nat → (Bool × (List Int) × (List Int) × Unit) → (Bool → Option α) → Option α), f = fun α => @spec_FracOk.b α := ⟨_, rfl⟩
noncomputable def spec_FracOk {α : Type} : Nat → (Bool × (List Int) × (List Int) × Unit) → (Bool → Option α) → Option α := Classical.choose spec_FracOk.ex α
theorem spec_FracOk.eq : @spec_FracOk = @spec_FracOk.b := funext fun α => congrFun (Classical.choose_spec spec_FracOk.ex) α

noncomputable def spec_l7Tens_L0r {α : Type} (N : Nat) (next : Int → Int → List Int → Option α) (k0 : List Int → Option α) (v419 : Int) (v420 : Int) (v421 : List Int) : Option α :=
 let x422 := decide (v420 < v419)
 bif x422 then
  spec_l5Times N v421 (10 : Int)
   (fun x423 =>
    let x424 := (IntKind.i64.wrap (v420 + (1 : Int)))
    next v419 x424 x423)
 else
  k0 v421
noncomputable def spec_l7Tens_L0.b {α : Type} (N n : Nat) (v419 : Int) (v420 : Int) (v421 : List Int) (k0 : List Int → Option α) : Option α :=
  Nat.rec (motive := fun _ => Int → Int → List Int → Option α) (fun _ _ _ => none) (fun _ next => spec_l7Tens_L0r N next k0) n v419 v420 v421
theorem spec_l7Tens_L0.ex : ∃ f : ((α : Type) → Nat → Nat → Int → Int → List Int → (List Int → Option α) → Option α), f = fun α => @spec_l7Tens_L0.b α := ⟨_, rfl⟩
noncomputable def spec_l7Tens_L0 {α : Type} : Nat → Nat → Int → Int → List Int → (List Int → Option α) → Option α := Classical.choose spec_l7Tens_L0.ex α
theorem spec_l7Tens_L0.eq : @spec_l7Tens_L0 = @spec_l7Tens_L0.b := funext fun α => congrFun (Classical.choose_spec spec_l7Tens_L0.ex) α
theorem spec_l7Tens_L0.zero {α : Type} (N : Nat) (v419 : Int) (v420 : Int) (v421 : List Int) (k0 : List Int → Option α) : spec_l7Tens_L0 N 0 v419 v420 v421 k0 = none := by rw [spec_l7Tens_L0.eq]; rfl
theorem spec_l7Tens_L0.succ {α : Type} (N n : Nat) (v419 : Int) (v420 : Int) (v421 : List Int) (k0 : List Int → Option α) : spec_l7Tens_L0 N (n + 1) v419 v420 v421 k0 = spec_l7Tens_L0r N (fun y0 y1 y2 => spec_l7Tens_L0 N n y0 y1 y2 k0) k0 v419 v420 v421 := by rw [spec_l7Tens_L0.eq]; rfl
/-- spec.l7Tens -/
noncomputable def spec_l7Tens.b {α : Type} (N : Nat) (a417 : Int) (k0 : List Int → Option α) : Option α :=
 let x418 := [(1 : Int)]
 spec_l7Tens_L0 N N a417 (0 : Int) x418
  (fun x425 =>
   k0 x425)
theorem spec_l7Tens.ex : ∃ f : ((α : Type) → Nat → Int → (List Int → Option α) → Option α), f = fun α => @spec_l7Tens.b α := ⟨_, rfl⟩
noncomputable def spec_l7Tens {α : Type} : Nat → Int → (List Int → Option α) → Option α := Classical.choose spec_l7Tens.ex α
theorem spec_l7Tens.eq : @spec_l7Tens = @spec_l7Tens.b := funext fun α => congrFun (Classical.choose_spec spec_l7Tens.ex) α

noncomputable def spec_NatText_L0r {α : Type} (N : Nat) (next : List Int → List Int → Option α) (k0 : List Int → Option α) (v455 : List Int) (v456 : List Int) : Option α :=
 let x457 := ((v455.length : Nat) : Int)
 let x458 := (decide ((0 : Int) < x457))
 bif x458 then
  spec_l5DivSmall N v455 (10 : Int)
   (fun x459 x460 =>
    let x461 := (IntKind.i64.wrap ((48 : Int) + x459))
    let x462 := IntKind.u8.wrap x461
    let x463 := [x462]
    bif decide (v456.length + x463.length ≤ 8796093022208) then
     let x464 := v456 ++ x463
     next x460 x464
    else
     none)
 else
  k0 v456
noncomputable def spec_NatText_L0.b {α : Type} (N n : Nat) (v455 : List Int) (v456 : List Int) (k0 : List Int → Option α) : Option α :=
  Nat.rec (motive := fun _ => List Int → List Int → Option α) (fun _ _ => none) (fun _ next => spec_NatText_L0r N next k0) n v455 v456
theorem spec_NatText_L0.ex : ∃ f : ((α : Type) → Nat → Nat → List Int → List Int → (List Int → Option α) → Option α), f = fun α => @spec_NatText_L0.b α := ⟨_, rfl⟩
noncomputable def spec_NatText_L0 {α : Type} : Nat → Nat → List Int → List Int → (List Int → Option α) → Option α := Classical.choose spec_NatText_L0.ex α
theorem spec_NatText_L0.eq : @spec_NatText_L0 = @spec_NatText_L0.b := funext fun α => congrFun (Classical.choose_spec spec_NatText_L0.ex) α
theorem spec_NatText_L0.zero {α : Type} (N : Nat) (v455 : List Int) (v456 : List Int) (k0 : List Int → Option α) : spec_NatText_L0 N 0 v455 v456 k0 = none := by rw [spec_NatText_L0.eq]; rfl
theorem spec_NatText_L0.succ {α : Type} (N n : Nat) (v455 : List Int) (v456 : List Int) (k0 : List Int → Option α) : spec_NatText_L0 N (n + 1) v455 v456 k0 = spec_NatText_L0r N (fun y0 y1 => spec_NatText_L0 N n y0 y1 k0) k0 v455 v456 := by rw [spec_NatText_L0.eq]; rfl
noncomputable def spec_NatText_L2r {α : Type} (N : Nat) (next : Int → List Int → List Int → Option α) (k0 : List Int → Option α) (v468 : Int) (v469 : List Int) (v470 : List Int) : Option α :=
 let x471 := (decide ((0 : Int) ≤ v468))
 bif x471 then
  bif (decide (v468 < (0 : Int))) then
   none
  else
   bif decide (v468.toNat < v469.length) then
    match v469[v468.toNat]? with
    | some x472 =>
     let x473 := [x472]
     bif decide (v470.length + x473.length ≤ 8796093022208) then
      let x474 := v470 ++ x473
      let x475 := (IntKind.i64.wrap (v468 - (1 : Int)))
      next x475 v469 x474
     else
      none
    | none => none
   else
    none
 else
  k0 v470
noncomputable def spec_NatText_L2.b {α : Type} (N n : Nat) (v468 : Int) (v469 : List Int) (v470 : List Int) (k0 : List Int → Option α) : Option α :=
  Nat.rec (motive := fun _ => Int → List Int → List Int → Option α) (fun _ _ _ => none) (fun _ next => spec_NatText_L2r N next k0) n v468 v469 v470
theorem spec_NatText_L2.ex : ∃ f : ((α : Type) → Nat → Nat → Int → List Int → List Int → (List Int → Option α) → Option α), f = fun α => @spec_NatText_L2.b α := ⟨_, rfl⟩
noncomputable def spec_NatText_L2 {α : Type} : Nat → Nat → Int → List Int → List Int → (List Int → Option α) → Option α := Classical.choose spec_NatText_L2.ex α
theorem spec_NatText_L2.eq : @spec_NatText_L2 = @spec_NatText_L2.b := funext fun α => congrFun (Classical.choose_spec spec_NatText_L2.ex) α
theorem spec_NatText_L2.zero {α : Type} (N : Nat) (v468 : Int) (v469 : List Int) (v470 : List Int) (k0 : List Int → Option α) : spec_NatText_L2 N 0 v468 v469 v470 k0 = none := by rw [spec_NatText_L2.eq]; rfl
theorem spec_NatText_L2.succ {α : Type} (N n : Nat) (v468 : Int) (v469 : List Int) (v470 : List Int) (k0 : List Int → Option α) : spec_NatText_L2 N (n + 1) v468 v469 v470 k0 = spec_NatText_L2r N (fun y0 y1 y2 => spec_NatText_L2 N n y0 y1 y2 k0) k0 v468 v469 v470 := by rw [spec_NatText_L2.eq]; rfl
/-- spec.NatText -/
noncomputable def spec_NatText.b {α : Type} (N : Nat) (a450 : List Int) (k0 : ByteArray → Option α) : Option α :=
 spec_NatOk N a450
  (fun x451 =>
   let x452 := !x451
   bif x452 then
    k0 ByteArray.empty
   else
    let x453 := ((a450.length : Nat) : Int)
    let x454 := (decide (x453 = (0 : Int)))
    bif x454 then
     k0 (⟨#[48]⟩ : ByteArray)
    else
     spec_NatText_L0 N N a450 []
      (fun x465 =>
       let x466 := ((x465.length : Nat) : Int)
       let x467 := (IntKind.i64.wrap (x466 - (1 : Int)))
       spec_NatText_L2 N N x467 x465 []
        (fun x476 =>
         let x477 := bytesOf x476
         k0 x477)))
theorem spec_NatText.ex : ∃ f : ((α : Type) → Nat → List Int → (ByteArray → Option α) → Option α), f = fun α => @spec_NatText.b α := ⟨_, rfl⟩
noncomputable def spec_NatText {α : Type} : Nat → List Int → (ByteArray → Option α) → Option α := Classical.choose spec_NatText.ex α
theorem spec_NatText.eq : @spec_NatText = @spec_NatText.b := funext fun α => congrFun (Classical.choose_spec spec_NatText.ex) α

noncomputable def spec_l7Digits_L0r {α : Type} (N : Nat) (next : ByteArray → Int → Int → Option α) (k0 : Int → Option α) (v504 : ByteArray) (v505 : Int) (v506 : Int) : Option α :=
 let x507 := IntKind.i64.wrap (v505 + v506)
 let x508 := ((v504.size : Nat) : Int)
 let x509 := decide (x507 < x508)
 bif x509 then
  let x510 := IntKind.i64.wrap (v505 + v506)
  bif (decide (x510 < (0 : Int))) then
   none
  else
   match (v504[x510.toNat]? : Option UInt8) with
   | some x511 =>
    let x512 := ((x511.toNat : Nat) : Int)
    let x513 := (decide ((48 : Int) ≤ x512))
    bif x513 then
     let x514 := IntKind.i64.wrap (v505 + v506)
     bif (decide (x514 < (0 : Int))) then
      none
     else
      match (v504[x514.toNat]? : Option UInt8) with
      | some x515 =>
       let x516 := ((x515.toNat : Nat) : Int)
       let x517 := (decide (x516 ≤ (57 : Int)))
       bif x517 then
        let x518 := (IntKind.i64.wrap (v506 + (1 : Int)))
        next v504 v505 x518
       else
        k0 v506
      | none => none
    else
     k0 v506
   | none => none
 else
  k0 v506
noncomputable def spec_l7Digits_L0.b {α : Type} (N n : Nat) (v504 : ByteArray) (v505 : Int) (v506 : Int) (k0 : Int → Option α) : Option α :=
  Nat.rec (motive := fun _ => ByteArray → Int → Int → Option α) (fun _ _ _ => none) (fun _ next => spec_l7Digits_L0r N next k0) n v504 v505 v506
theorem spec_l7Digits_L0.ex : ∃ f : ((α : Type) → Nat → Nat → ByteArray → Int → Int → (Int → Option α) → Option α), f = fun α => @spec_l7Digits_L0.b α := ⟨_, rfl⟩
noncomputable def spec_l7Digits_L0 {α : Type} : Nat → Nat → ByteArray → Int → Int → (Int → Option α) → Option α := Classical.choose spec_l7Digits_L0.ex α
theorem spec_l7Digits_L0.eq : @spec_l7Digits_L0 = @spec_l7Digits_L0.b := funext fun α => congrFun (Classical.choose_spec spec_l7Digits_L0.ex) α
theorem spec_l7Digits_L0.zero {α : Type} (N : Nat) (v504 : ByteArray) (v505 : Int) (v506 : Int) (k0 : Int → Option α) : spec_l7Digits_L0 N 0 v504 v505 v506 k0 = none := by rw [spec_l7Digits_L0.eq]; rfl
theorem spec_l7Digits_L0.succ {α : Type} (N n : Nat) (v504 : ByteArray) (v505 : Int) (v506 : Int) (k0 : Int → Option α) : spec_l7Digits_L0 N (n + 1) v504 v505 v506 k0 = spec_l7Digits_L0r N (fun y0 y1 y2 => spec_l7Digits_L0 N n y0 y1 y2 k0) k0 v504 v505 v506 := by rw [spec_l7Digits_L0.eq]; rfl
/-- spec.l7Digits -/
noncomputable def spec_l7Digits.b {α : Type} (N : Nat) (a502 : ByteArray) (a503 : Int) (k0 : Int → Option α) : Option α :=
 spec_l7Digits_L0 N N a502 a503 (0 : Int)
  (fun x519 =>
   k0 x519)
theorem spec_l7Digits.ex : ∃ f : ((α : Type) → Nat → ByteArray → Int → (Int → Option α) → Option α), f = fun α => @spec_l7Digits.b α := ⟨_, rfl⟩
noncomputable def spec_l7Digits {α : Type} : Nat → ByteArray → Int → (Int → Option α) → Option α := Classical.choose spec_l7Digits.ex α
theorem spec_l7Digits.eq : @spec_l7Digits = @spec_l7Digits.b := funext fun α => congrFun (Classical.choose_spec spec_l7Digits.ex) α

noncomputable def spec_l7Parts_J9.b {α : Type} (N : Nat) (v527 : ByteArray) (v528 : ByteArray) (v529 : Int) (v530 : Int) (k0 : ByteArray → Int → Int → Bool → Option α) (k1 : ByteArray → ByteArray → Int → Int → Option α) : Option α :=
 let x531 := ((v527.size : Nat) : Int)
 let x532 := decide (v530 < x531)
 bif x532 then
  bif (decide (v530 < (0 : Int))) then
   none
  else
   match (v527[v530.toNat]? : Option UInt8) with
   | some x533 =>
    let x534 := ((x533.toNat : Nat) : Int)
    let x535 := (decide (x534 = (46 : Int)))
    bif x535 then
     let x536 := (IntKind.i64.wrap (v530 + (1 : Int)))
     spec_l7Digits N v527 x536
      (fun x537 =>
       let x538 := (decide (x537 = (0 : Int)))
       bif x538 then
        k0 ByteArray.empty (0 : Int) (0 : Int) false
       else
        let x539 := (IntKind.i64.wrap (v530 + (1 : Int)))
        let x540 := (IntKind.i64.wrap (v530 + (1 : Int)))
        let x541 := IntKind.i64.wrap (x540 + x537)
        bif (decide ((0 : Int) ≤ x541)) then
         bif (decide (x541 ≤ ((v527.size : Nat) : Int))) then
          bif (decide ((0 : Int) ≤ x539)) then
           bif (decide (x539 ≤ ((x541.toNat : Nat) : Int))) then
            let x542 := v527.extract x539.toNat x541.toNat
            bif decide (v528.size + x542.size ≤ 9223372036854775807) then
             let x543 := v528 ++ x542
             let x544 := (IntKind.i64.wrap (v530 + (1 : Int)))
             let x545 := IntKind.i64.wrap (x544 + x537)
             k1 v527 x543 x537 x545
            else
             none
           else
            none
          else
           none
         else
          none
        else
         none)
    else
     k1 v527 v528 v529 v530
   | none => none
 else
  k1 v527 v528 v529 v530
theorem spec_l7Parts_J9.ex : ∃ f : ((α : Type) → Nat → ByteArray → ByteArray → Int → Int → (ByteArray → Int → Int → Bool → Option α) → (ByteArray → ByteArray → Int → Int → Option α) → Option α), f = fun α => @spec_l7Parts_J9.b α := ⟨_, rfl⟩
noncomputable def spec_l7Parts_J9 {α : Type} : Nat → ByteArray → ByteArray → Int → Int → (ByteArray → Int → Int → Bool → Option α) → (ByteArray → ByteArray → Int → Int → Option α) → Option α := Classical.choose spec_l7Parts_J9.ex α
theorem spec_l7Parts_J9.eq : @spec_l7Parts_J9 = @spec_l7Parts_J9.b := funext fun α => congrFun (Classical.choose_spec spec_l7Parts_J9.ex) α
noncomputable def spec_l7Parts_J19.b {α : Type} (N : Nat) (v570 : ByteArray) (v571 : ByteArray) (v572 : Int) (v573 : Int) (v574 : Int) (v575 : Bool) (k0 : ByteArray → ByteArray → Int → Int → Int → Bool → Option α) : Option α :=
 bif v575 then
  let x576 := (IntKind.i64.wrap (v573 + (1 : Int)))
  k0 v570 v571 v572 x576 v574 v575
 else
  k0 v570 v571 v572 v573 v574 v575
theorem spec_l7Parts_J19.ex : ∃ f : ((α : Type) → Nat → ByteArray → ByteArray → Int → Int → Int → Bool → (ByteArray → ByteArray → Int → Int → Int → Bool → Option α) → Option α), f = fun α => @spec_l7Parts_J19.b α := ⟨_, rfl⟩
noncomputable def spec_l7Parts_J19 {α : Type} : Nat → ByteArray → ByteArray → Int → Int → Int → Bool → (ByteArray → ByteArray → Int → Int → Int → Bool → Option α) → Option α := Classical.choose spec_l7Parts_J19.ex α
theorem spec_l7Parts_J19.eq : @spec_l7Parts_J19 = @spec_l7Parts_J19.b := funext fun α => congrFun (Classical.choose_spec spec_l7Parts_J19.ex) α
noncomputable def spec_l7Parts_L0r {α : Type} (N : Nat) (next : ByteArray → ByteArray → Int → Int → Int → Bool → Int → Int → Option α) (k0 : ByteArray → ByteArray → Int → Int → Int → Bool → Int → Option α) (v593 : ByteArray) (v594 : ByteArray) (v595 : Int) (v596 : Int) (v597 : Int) (v598 : Bool) (v599 : Int) (v600 : Int) : Option α :=
 let x601 := IntKind.i64.wrap (v596 + v599)
 let x602 := decide (v600 < x601)
 bif x602 then
  let x603 := (IntKind.i64.wrap (v597 * (10 : Int)))
  bif (decide (v600 < (0 : Int))) then
   none
  else
   match (v593[v600.toNat]? : Option UInt8) with
   | some x604 =>
    let x605 := ((x604.toNat : Nat) : Int)
    let x606 := (IntKind.u8.wrap (x605 - (48 : Int)))
    let x607 := IntKind.i64.wrap x606
    let x608 := IntKind.i64.wrap (x603 + x607)
    let x609 := (IntKind.i64.wrap (v600 + (1 : Int)))
    next v593 v594 v595 v596 x608 v598 v599 x609
   | none => none
 else
  k0 v593 v594 v595 v596 v597 v598 v599
noncomputable def spec_l7Parts_L0.b {α : Type} (N n : Nat) (v593 : ByteArray) (v594 : ByteArray) (v595 : Int) (v596 : Int) (v597 : Int) (v598 : Bool) (v599 : Int) (v600 : Int) (k0 : ByteArray → ByteArray → Int → Int → Int → Bool → Int → Option α) : Option α :=
  Nat.rec (motive := fun _ => ByteArray → ByteArray → Int → Int → Int → Bool → Int → Int → Option α) (fun _ _ _ _ _ _ _ _ => none) (fun _ next => spec_l7Parts_L0r N next k0) n v593 v594 v595 v596 v597 v598 v599 v600
theorem spec_l7Parts_L0.ex : ∃ f : ((α : Type) → Nat → Nat → ByteArray → ByteArray → Int → Int → Int → Bool → Int → Int → (ByteArray → ByteArray → Int → Int → Int → Bool → Int → Option α) → Option α), f = fun α => @spec_l7Parts_L0.b α := ⟨_, rfl⟩
noncomputable def spec_l7Parts_L0 {α : Type} : Nat → Nat → ByteArray → ByteArray → Int → Int → Int → Bool → Int → Int → (ByteArray → ByteArray → Int → Int → Int → Bool → Int → Option α) → Option α := Classical.choose spec_l7Parts_L0.ex α
theorem spec_l7Parts_L0.eq : @spec_l7Parts_L0 = @spec_l7Parts_L0.b := funext fun α => congrFun (Classical.choose_spec spec_l7Parts_L0.ex) α
theorem spec_l7Parts_L0.zero {α : Type} (N : Nat) (v593 : ByteArray) (v594 : ByteArray) (v595 : Int) (v596 : Int) (v597 : Int) (v598 : Bool) (v599 : Int) (v600 : Int) (k0 : ByteArray → ByteArray → Int → Int → Int → Bool → Int → Option α) : spec_l7Parts_L0 N 0 v593 v594 v595 v596 v597 v598 v599 v600 k0 = none := by rw [spec_l7Parts_L0.eq]; rfl
theorem spec_l7Parts_L0.succ {α : Type} (N n : Nat) (v593 : ByteArray) (v594 : ByteArray) (v595 : Int) (v596 : Int) (v597 : Int) (v598 : Bool) (v599 : Int) (v600 : Int) (k0 : ByteArray → ByteArray → Int → Int → Int → Bool → Int → Option α) : spec_l7Parts_L0 N (n + 1) v593 v594 v595 v596 v597 v598 v599 v600 k0 = spec_l7Parts_L0r N (fun y0 y1 y2 y3 y4 y5 y6 y7 => spec_l7Parts_L0 N n y0 y1 y2 y3 y4 y5 y6 y7 k0) k0 v593 v594 v595 v596 v597 v598 v599 v600 := by rw [spec_l7Parts_L0.eq]; rfl
noncomputable def spec_l7Parts_J30.b {α : Type} (N : Nat) (v618 : ByteArray) (v619 : ByteArray) (v620 : Int) (v621 : Int) (v622 : Int) (v623 : Bool) (v624 : Int) (k0 : ByteArray → ByteArray → Int → Int → Int → Int → Option α) : Option α :=
 bif v623 then
  let x625 := IntKind.i64.wrap (0 - v622)
  k0 v618 v619 v620 v621 x625 v624
 else
  k0 v618 v619 v620 v621 v622 v624
theorem spec_l7Parts_J30.ex : ∃ f : ((α : Type) → Nat → ByteArray → ByteArray → Int → Int → Int → Bool → Int → (ByteArray → ByteArray → Int → Int → Int → Int → Option α) → Option α), f = fun α => @spec_l7Parts_J30.b α := ⟨_, rfl⟩
noncomputable def spec_l7Parts_J30 {α : Type} : Nat → ByteArray → ByteArray → Int → Int → Int → Bool → Int → (ByteArray → ByteArray → Int → Int → Int → Int → Option α) → Option α := Classical.choose spec_l7Parts_J30.ex α
theorem spec_l7Parts_J30.eq : @spec_l7Parts_J30 = @spec_l7Parts_J30.b := funext fun α => congrFun (Classical.choose_spec spec_l7Parts_J30.ex) α
noncomputable def spec_l7Parts_J16.b {α : Type} (N : Nat) (v554 : ByteArray) (v555 : ByteArray) (v556 : Int) (v557 : Int) (v558 : Int) (k0 : ByteArray → Int → Int → Bool → Option α) (k1 : ByteArray → ByteArray → Int → Int → Int → Option α) : Option α :=
 let x559 := ((v554.size : Nat) : Int)
 let x560 := decide (v557 < x559)
 bif x560 then
  bif (decide (v557 < (0 : Int))) then
   none
  else
   match (v554[v557.toNat]? : Option UInt8) with
   | some x561 =>
    let x562 := ((x561.toNat : Nat) : Int)
    let x563 := (decide (x562 = (101 : Int)))
    bif x563 then
     let x564 := (IntKind.i64.wrap (v557 + (1 : Int)))
     let x565 := ((v554.size : Nat) : Int)
     let x566 := decide (x564 < x565)
     bif x566 then
      bif (decide (x564 < (0 : Int))) then
       none
      else
       match (v554[x564.toNat]? : Option UInt8) with
       | some x567 =>
        let x568 := ((x567.toNat : Nat) : Int)
        let x569 := (decide (x568 = (45 : Int)))
        spec_l7Parts_J19 N v554 v555 v556 x564 v558 x569
         (fun x577 x578 x579 x580 x581 x582 =>
          spec_l7Digits N x577 x580
           (fun x583 =>
            let x584 := (decide (x583 = (0 : Int)))
            bif x584 then
             k0 ByteArray.empty (0 : Int) (0 : Int) false
            else
             let x585 := (decide ((3 : Int) < x583))
             bif x585 then
              k0 ByteArray.empty (0 : Int) (0 : Int) false
             else
              let x586 := (decide ((1 : Int) < x583))
              bif x586 then
               bif (decide (x580 < (0 : Int))) then
                none
               else
                match (x577[x580.toNat]? : Option UInt8) with
                | some x587 =>
                 let x588 := ((x587.toNat : Nat) : Int)
                 let x589 := (decide (x588 = (48 : Int)))
                 bif x589 then
                  k0 ByteArray.empty (0 : Int) (0 : Int) false
                 else
                  bif x582 then
                   bif (decide (x580 < (0 : Int))) then
                    none
                   else
                    match (x577[x580.toNat]? : Option UInt8) with
                    | some x590 =>
                     let x591 := ((x590.toNat : Nat) : Int)
                     let x592 := (decide (x591 = (48 : Int)))
                     bif x592 then
                      k0 ByteArray.empty (0 : Int) (0 : Int) false
                     else
                      spec_l7Parts_L0 N N x577 x578 x579 x580 x581 x582 x583 x580
                       (fun x610 x611 x612 x613 x614 x615 x616 =>
                        let x617 := (decide ((400 : Int) < x614))
                        bif x617 then
                         k0 ByteArray.empty (0 : Int) (0 : Int) false
                        else
                         spec_l7Parts_J30 N x610 x611 x612 x613 x614 x615 x616
                          (fun x626 x627 x628 x629 x630 x631 =>
                           let x632 := IntKind.i64.wrap (x629 + x631)
                           k1 x626 x627 x628 x632 x630))
                    | none => none
                  else
                   spec_l7Parts_L0 N N x577 x578 x579 x580 x581 x582 x583 x580
                    (fun x633 x634 x635 x636 x637 x638 x639 =>
                     let x640 := (decide ((400 : Int) < x637))
                     bif x640 then
                      k0 ByteArray.empty (0 : Int) (0 : Int) false
                     else
                      spec_l7Parts_J30 N x633 x634 x635 x636 x637 x638 x639
                       (fun x641 x642 x643 x644 x645 x646 =>
                        let x647 := IntKind.i64.wrap (x644 + x646)
                        k1 x641 x642 x643 x647 x645))
                | none => none
              else
               bif x582 then
                bif (decide (x580 < (0 : Int))) then
                 none
                else
                 match (x577[x580.toNat]? : Option UInt8) with
                 | some x648 =>
                  let x649 := ((x648.toNat : Nat) : Int)
                  let x650 := (decide (x649 = (48 : Int)))
                  bif x650 then
                   k0 ByteArray.empty (0 : Int) (0 : Int) false
                  else
                   spec_l7Parts_L0 N N x577 x578 x579 x580 x581 x582 x583 x580
                    (fun x651 x652 x653 x654 x655 x656 x657 =>
                     let x658 := (decide ((400 : Int) < x655))
                     bif x658 then
                      k0 ByteArray.empty (0 : Int) (0 : Int) false
                     else
                      spec_l7Parts_J30 N x651 x652 x653 x654 x655 x656 x657
                       (fun x659 x660 x661 x662 x663 x664 =>
                        let x665 := IntKind.i64.wrap (x662 + x664)
                        k1 x659 x660 x661 x665 x663))
                 | none => none
               else
                spec_l7Parts_L0 N N x577 x578 x579 x580 x581 x582 x583 x580
                 (fun x666 x667 x668 x669 x670 x671 x672 =>
                  let x673 := (decide ((400 : Int) < x670))
                  bif x673 then
                   k0 ByteArray.empty (0 : Int) (0 : Int) false
                  else
                   spec_l7Parts_J30 N x666 x667 x668 x669 x670 x671 x672
                    (fun x674 x675 x676 x677 x678 x679 =>
                     let x680 := IntKind.i64.wrap (x677 + x679)
                     k1 x674 x675 x676 x680 x678))))
       | none => none
     else
      spec_l7Parts_J19 N v554 v555 v556 x564 v558 false
       (fun x681 x682 x683 x684 x685 x686 =>
        spec_l7Digits N x681 x684
         (fun x687 =>
          let x688 := (decide (x687 = (0 : Int)))
          bif x688 then
           k0 ByteArray.empty (0 : Int) (0 : Int) false
          else
           let x689 := (decide ((3 : Int) < x687))
           bif x689 then
            k0 ByteArray.empty (0 : Int) (0 : Int) false
           else
            let x690 := (decide ((1 : Int) < x687))
            bif x690 then
             bif (decide (x684 < (0 : Int))) then
              none
             else
              match (x681[x684.toNat]? : Option UInt8) with
              | some x691 =>
               let x692 := ((x691.toNat : Nat) : Int)
               let x693 := (decide (x692 = (48 : Int)))
               bif x693 then
                k0 ByteArray.empty (0 : Int) (0 : Int) false
               else
                bif x686 then
                 bif (decide (x684 < (0 : Int))) then
                  none
                 else
                  match (x681[x684.toNat]? : Option UInt8) with
                  | some x694 =>
                   let x695 := ((x694.toNat : Nat) : Int)
                   let x696 := (decide (x695 = (48 : Int)))
                   bif x696 then
                    k0 ByteArray.empty (0 : Int) (0 : Int) false
                   else
                    spec_l7Parts_L0 N N x681 x682 x683 x684 x685 x686 x687 x684
                     (fun x697 x698 x699 x700 x701 x702 x703 =>
                      let x704 := (decide ((400 : Int) < x701))
                      bif x704 then
                       k0 ByteArray.empty (0 : Int) (0 : Int) false
                      else
                       spec_l7Parts_J30 N x697 x698 x699 x700 x701 x702 x703
                        (fun x705 x706 x707 x708 x709 x710 =>
                         let x711 := IntKind.i64.wrap (x708 + x710)
                         k1 x705 x706 x707 x711 x709))
                  | none => none
                else
                 spec_l7Parts_L0 N N x681 x682 x683 x684 x685 x686 x687 x684
                  (fun x712 x713 x714 x715 x716 x717 x718 =>
                   let x719 := (decide ((400 : Int) < x716))
                   bif x719 then
                    k0 ByteArray.empty (0 : Int) (0 : Int) false
                   else
                    spec_l7Parts_J30 N x712 x713 x714 x715 x716 x717 x718
                     (fun x720 x721 x722 x723 x724 x725 =>
                      let x726 := IntKind.i64.wrap (x723 + x725)
                      k1 x720 x721 x722 x726 x724))
              | none => none
            else
             bif x686 then
              bif (decide (x684 < (0 : Int))) then
               none
              else
               match (x681[x684.toNat]? : Option UInt8) with
               | some x727 =>
                let x728 := ((x727.toNat : Nat) : Int)
                let x729 := (decide (x728 = (48 : Int)))
                bif x729 then
                 k0 ByteArray.empty (0 : Int) (0 : Int) false
                else
                 spec_l7Parts_L0 N N x681 x682 x683 x684 x685 x686 x687 x684
                  (fun x730 x731 x732 x733 x734 x735 x736 =>
                   let x737 := (decide ((400 : Int) < x734))
                   bif x737 then
                    k0 ByteArray.empty (0 : Int) (0 : Int) false
                   else
                    spec_l7Parts_J30 N x730 x731 x732 x733 x734 x735 x736
                     (fun x738 x739 x740 x741 x742 x743 =>
                      let x744 := IntKind.i64.wrap (x741 + x743)
                      k1 x738 x739 x740 x744 x742))
               | none => none
             else
              spec_l7Parts_L0 N N x681 x682 x683 x684 x685 x686 x687 x684
               (fun x745 x746 x747 x748 x749 x750 x751 =>
                let x752 := (decide ((400 : Int) < x749))
                bif x752 then
                 k0 ByteArray.empty (0 : Int) (0 : Int) false
                else
                 spec_l7Parts_J30 N x745 x746 x747 x748 x749 x750 x751
                  (fun x753 x754 x755 x756 x757 x758 =>
                   let x759 := IntKind.i64.wrap (x756 + x758)
                   k1 x753 x754 x755 x759 x757))))
    else
     k1 v554 v555 v556 v557 v558
   | none => none
 else
  k1 v554 v555 v556 v557 v558
theorem spec_l7Parts_J16.ex : ∃ f : ((α : Type) → Nat → ByteArray → ByteArray → Int → Int → Int → (ByteArray → Int → Int → Bool → Option α) → (ByteArray → ByteArray → Int → Int → Int → Option α) → Option α), f = fun α => @spec_l7Parts_J16.b α := ⟨_, rfl⟩
noncomputable def spec_l7Parts_J16 {α : Type} : Nat → ByteArray → ByteArray → Int → Int → Int → (ByteArray → Int → Int → Bool → Option α) → (ByteArray → ByteArray → Int → Int → Int → Option α) → Option α := Classical.choose spec_l7Parts_J16.ex α
theorem spec_l7Parts_J16.eq : @spec_l7Parts_J16 = @spec_l7Parts_J16.b := funext fun α => congrFun (Classical.choose_spec spec_l7Parts_J16.ex) α
/-- spec.l7Parts -/
noncomputable def spec_l7Parts.b {α : Type} (N : Nat) (a499 : ByteArray) (k0 : ByteArray → Int → Int → Bool → Option α) : Option α :=
 let x500 := ((a499.size : Nat) : Int)
 let x501 := (decide ((60 : Int) < x500))
 bif x501 then
  k0 ByteArray.empty (0 : Int) (0 : Int) false
 else
  spec_l7Digits N a499 (0 : Int)
   (fun x520 =>
    let x521 := (decide (x520 = (0 : Int)))
    bif x521 then
     k0 ByteArray.empty (0 : Int) (0 : Int) false
    else
     let x522 := (decide ((1 : Int) < x520))
     bif x522 then
      match (a499[0]? : Option UInt8) with
      | some x523 =>
       let x524 := ((x523.toNat : Nat) : Int)
       let x525 := (decide (x524 = (48 : Int)))
       bif x525 then
        k0 ByteArray.empty (0 : Int) (0 : Int) false
       else
        bif (decide ((0 : Int) ≤ x520)) then
         bif (decide (x520 ≤ ((a499.size : Nat) : Int))) then
          let x526 := a499.extract 0 x520.toNat
          spec_l7Parts_J9 N a499 x526 (0 : Int) x520
           (fun x546 x547 x548 x549 =>
            k0 x546 x547 x548 x549)
           (fun x550 x551 x552 x553 =>
            spec_l7Parts_J16 N x550 x551 x552 x553 (0 : Int)
             (fun x760 x761 x762 x763 =>
              k0 x760 x761 x762 x763)
             (fun x764 x765 x766 x767 x768 =>
              let x769 := ((x764.size : Nat) : Int)
              let x770 := decide (x767 = x769)
              k0 x765 x766 x768 x770))
         else
          none
        else
         none
      | none => none
     else
      bif (decide ((0 : Int) ≤ x520)) then
       bif (decide (x520 ≤ ((a499.size : Nat) : Int))) then
        let x771 := a499.extract 0 x520.toNat
        spec_l7Parts_J9 N a499 x771 (0 : Int) x520
         (fun x772 x773 x774 x775 =>
          k0 x772 x773 x774 x775)
         (fun x776 x777 x778 x779 =>
          spec_l7Parts_J16 N x776 x777 x778 x779 (0 : Int)
           (fun x780 x781 x782 x783 =>
            k0 x780 x781 x782 x783)
           (fun x784 x785 x786 x787 x788 =>
            let x789 := ((x784.size : Nat) : Int)
            let x790 := decide (x787 = x789)
            k0 x785 x786 x788 x790))
       else
        none
      else
       none)
theorem spec_l7Parts.ex : ∃ f : ((α : Type) → Nat → ByteArray → (ByteArray → Int → Int → Bool → Option α) → Option α), f = fun α => @spec_l7Parts.b α := ⟨_, rfl⟩
noncomputable def spec_l7Parts {α : Type} : Nat → ByteArray → (ByteArray → Int → Int → Bool → Option α) → Option α := Classical.choose spec_l7Parts.ex α
theorem spec_l7Parts.eq : @spec_l7Parts = @spec_l7Parts.b := funext fun α => congrFun (Classical.choose_spec spec_l7Parts.ex) α

/-- spec.DecOk -/
noncomputable def spec_DecOk.b {α : Type} (N : Nat) (a498 : ByteArray) (k0 : Bool → Option α) : Option α :=
 spec_l7Parts N a498
  (fun _ _ _ x794 =>
   k0 x794)
theorem spec_DecOk.ex : ∃ f : ((α : Type) → Nat → ByteArray → (Bool → Option α) → Option α), f = fun α => @spec_DecOk.b α := ⟨_, rfl⟩
noncomputable def spec_DecOk {α : Type} : Nat → ByteArray → (Bool → Option α) → Option α := Classical.choose spec_DecOk.ex α
theorem spec_DecOk.eq : @spec_DecOk = @spec_DecOk.b := funext fun α => congrFun (Classical.choose_spec spec_DecOk.ex) α

noncomputable def spec_DecText_L2r {α : Type} (N : Nat) (next : Int → ByteArray → Option α) (k0 : Int → ByteArray → Option α) (v479 : Int) (v480 : ByteArray) : Option α :=
 let x481 := ((v480.size : Nat) : Int)
 let x482 := decide (x481 ≤ v479)
 bif x482 then
  bif (decide ((⟨#[48]⟩ : ByteArray).size + v480.size ≤ 9223372036854775807)) then
   let x483 := ((⟨#[48]⟩ : ByteArray) ++ v480)
   next v479 x483
  else
   none
 else
  k0 v479 v480
noncomputable def spec_DecText_L2.b {α : Type} (N n : Nat) (v479 : Int) (v480 : ByteArray) (k0 : Int → ByteArray → Option α) : Option α :=
  Nat.rec (motive := fun _ => Int → ByteArray → Option α) (fun _ _ => none) (fun _ next => spec_DecText_L2r N next k0) n v479 v480
theorem spec_DecText_L2.ex : ∃ f : ((α : Type) → Nat → Nat → Int → ByteArray → (Int → ByteArray → Option α) → Option α), f = fun α => @spec_DecText_L2.b α := ⟨_, rfl⟩
noncomputable def spec_DecText_L2 {α : Type} : Nat → Nat → Int → ByteArray → (Int → ByteArray → Option α) → Option α := Classical.choose spec_DecText_L2.ex α
theorem spec_DecText_L2.eq : @spec_DecText_L2 = @spec_DecText_L2.b := funext fun α => congrFun (Classical.choose_spec spec_DecText_L2.ex) α
theorem spec_DecText_L2.zero {α : Type} (N : Nat) (v479 : Int) (v480 : ByteArray) (k0 : Int → ByteArray → Option α) : spec_DecText_L2 N 0 v479 v480 k0 = none := by rw [spec_DecText_L2.eq]; rfl
theorem spec_DecText_L2.succ {α : Type} (N n : Nat) (v479 : Int) (v480 : ByteArray) (k0 : Int → ByteArray → Option α) : spec_DecText_L2 N (n + 1) v479 v480 k0 = spec_DecText_L2r N (fun y0 y1 => spec_DecText_L2 N n y0 y1 k0) k0 v479 v480 := by rw [spec_DecText_L2.eq]; rfl
noncomputable def spec_DecText_J13.b {α : Type} (N : Nat) (v486 : Int) (v487 : ByteArray) (k0 : ByteArray → Option α) : Option α :=
 let x488 := (decide ((0 : Int) < v486))
 bif x488 then
  let x489 := ((v487.size : Nat) : Int)
  let x490 := IntKind.i64.wrap (x489 - v486)
  bif (decide ((0 : Int) ≤ x490)) then
   bif (decide (x490 ≤ ((v487.size : Nat) : Int))) then
    let x491 := v487.extract 0 x490.toNat
    bif (decide (x491.size + (⟨#[46]⟩ : ByteArray).size ≤ 9223372036854775807)) then
     let x492 := (x491 ++ (⟨#[46]⟩ : ByteArray))
     let x493 := ((v487.size : Nat) : Int)
     let x494 := IntKind.i64.wrap (x493 - v486)
     bif (decide ((0 : Int) ≤ x494)) then
      bif (decide (x494 ≤ ((v487.size : Nat) : Int))) then
       let x495 := v487.extract x494.toNat v487.size
       bif decide (x492.size + x495.size ≤ 9223372036854775807) then
        let x496 := x492 ++ x495
        k0 x496
       else
        none
      else
       none
     else
      none
    else
     none
   else
    none
  else
   none
 else
  k0 v487
theorem spec_DecText_J13.ex : ∃ f : ((α : Type) → Nat → Int → ByteArray → (ByteArray → Option α) → Option α), f = fun α => @spec_DecText_J13.b α := ⟨_, rfl⟩
noncomputable def spec_DecText_J13 {α : Type} : Nat → Int → ByteArray → (ByteArray → Option α) → Option α := Classical.choose spec_DecText_J13.ex α
theorem spec_DecText_J13.eq : @spec_DecText_J13 = @spec_DecText_J13.b := funext fun α => congrFun (Classical.choose_spec spec_DecText_J13.ex) α
noncomputable def spec_DecText_L0r {α : Type} (N : Nat) (next : Int → (Bool × (List Int) × (List Int) × Unit) → Option α) (k0 : ByteArray → Bool → Option α) (k1 : Option α) (v414 : Int) (v415 : Bool × (List Int) × (List Int) × Unit) : Option α :=
 let x416 := (decide (v414 < (60 : Int)))
 bif x416 then
  spec_l7Tens N v414
   (fun x426 =>
    spec_l5Mul N v415.2.1 x426
     (fun x427 =>
      spec_l5Div N x427 v415.2.2.1
       (fun x428 x429 =>
        let x430 := ((x429.length : Nat) : Int)
        let x431 := (decide ((0 : Int) < x430))
        bif x431 then
         let x432 := (IntKind.i64.wrap (v414 + (1 : Int)))
         next x432 v415
        else
         let x433 := ((x428.length : Nat) : Int)
         let x434 := (decide ((256 : Int) < x433))
         bif x434 then
          k0 ByteArray.empty false
         else
          spec_NatText N x428
           (fun x478 =>
            spec_DecText_L2 N N v414 x478
             (fun x484 x485 =>
              spec_DecText_J13 N x484 x485
               (fun x497 =>
                spec_DecOk N x497
                 (fun x795 =>
                  let x796 := !x795
                  bif x796 then
                   k0 ByteArray.empty false
                  else
                   k0 x497 true)))))))
 else
  k1
noncomputable def spec_DecText_L0.b {α : Type} (N n : Nat) (v414 : Int) (v415 : Bool × (List Int) × (List Int) × Unit) (k0 : ByteArray → Bool → Option α) (k1 : Option α) : Option α :=
  Nat.rec (motive := fun _ => Int → (Bool × (List Int) × (List Int) × Unit) → Option α) (fun _ _ => none) (fun _ next => spec_DecText_L0r N next k0 k1) n v414 v415
theorem spec_DecText_L0.ex : ∃ f : ((α : Type) → Nat → Nat → Int → (Bool × (List Int) × (List Int) × Unit) → (ByteArray → Bool → Option α) → (Option α) → Option α), f = fun α => @spec_DecText_L0.b α := ⟨_, rfl⟩
noncomputable def spec_DecText_L0 {α : Type} : Nat → Nat → Int → (Bool × (List Int) × (List Int) × Unit) → (ByteArray → Bool → Option α) → (Option α) → Option α := Classical.choose spec_DecText_L0.ex α
theorem spec_DecText_L0.eq : @spec_DecText_L0 = @spec_DecText_L0.b := funext fun α => congrFun (Classical.choose_spec spec_DecText_L0.ex) α
theorem spec_DecText_L0.zero {α : Type} (N : Nat) (v414 : Int) (v415 : Bool × (List Int) × (List Int) × Unit) (k0 : ByteArray → Bool → Option α) (k1 : Option α) : spec_DecText_L0 N 0 v414 v415 k0 k1 = none := by rw [spec_DecText_L0.eq]; rfl
theorem spec_DecText_L0.succ {α : Type} (N n : Nat) (v414 : Int) (v415 : Bool × (List Int) × (List Int) × Unit) (k0 : ByteArray → Bool → Option α) (k1 : Option α) : spec_DecText_L0 N (n + 1) v414 v415 k0 k1 = spec_DecText_L0r N (fun y0 y1 => spec_DecText_L0 N n y0 y1 k0 k1) k0 k1 v414 v415 := by rw [spec_DecText_L0.eq]; rfl
/-- spec.DecText -/
noncomputable def spec_DecText.b {α : Type} (N : Nat) (a34 : Bool × (List Int) × (List Int) × Unit) (k0 : ByteArray → Bool → Option α) : Option α :=
 spec_FracOk N a34
  (fun x412 =>
   let x413 := !x412
   bif x413 then
    k0 ByteArray.empty false
   else
    bif a34.1 then
     k0 ByteArray.empty false
    else
     spec_DecText_L0 N N (0 : Int) a34
      (fun x797 x798 =>
       k0 x797 x798)
      (
       k0 ByteArray.empty false))
theorem spec_DecText.ex : ∃ f : ((α : Type) → Nat → (Bool × (List Int) × (List Int) × Unit) → (ByteArray → Bool → Option α) → Option α), f = fun α => @spec_DecText.b α := ⟨_, rfl⟩
noncomputable def spec_DecText {α : Type} : Nat → (Bool × (List Int) × (List Int) × Unit) → (ByteArray → Bool → Option α) → Option α := Classical.choose spec_DecText.ex α
theorem spec_DecText.eq : @spec_DecText = @spec_DecText.b := funext fun α => congrFun (Classical.choose_spec spec_DecText.ex) α

/-- impl.in -/
noncomputable def impl_in.b {α : Type} (N : Nat) (a831 : Int) (a832 : Int) (a833 : Int) (k0 : Bool → Option α) : Option α :=
 let x834 := decide (a832 ≤ a831)
 bif x834 then
  let x835 := decide (a831 ≤ a833)
  k0 x835
 else
  k0 false
theorem impl_in.ex : ∃ f : ((α : Type) → Nat → Int → Int → Int → (Bool → Option α) → Option α), f = fun α => @impl_in.b α := ⟨_, rfl⟩
noncomputable def impl_in {α : Type} : Nat → Int → Int → Int → (Bool → Option α) → Option α := Classical.choose impl_in.ex α
theorem impl_in.eq : @impl_in = @impl_in.b := funext fun α => congrFun (Classical.choose_spec impl_in.ex) α

/-- impl.NatOk$1 -/
noncomputable def impl_NatOk_1.b {α : Type} (N : Nat) (a830 : Int) (k0 : Bool → Option α) : Option α :=
 impl_in N a830 (0 : Int) (65535 : Int)
  (fun x836 =>
   let x837 := !x836
   k0 x837)
theorem impl_NatOk_1.ex : ∃ f : ((α : Type) → Nat → Int → (Bool → Option α) → Option α), f = fun α => @impl_NatOk_1.b α := ⟨_, rfl⟩
noncomputable def impl_NatOk_1 {α : Type} : Nat → Int → (Bool → Option α) → Option α := Classical.choose impl_NatOk_1.ex α
theorem impl_NatOk_1.eq : @impl_NatOk_1 = @impl_NatOk_1.b := funext fun α => congrFun (Classical.choose_spec impl_NatOk_1.ex) α

noncomputable def slices_IndexFunc_int_int__impl_NatOk_1_L0r {α : Type} (N : Nat) (next : List Int → Int → Int → Option α) (k0 : Int → Option α) (k1 : Option α) (v825 : List Int) (v826 : Int) (v827 : Int) : Option α :=
 let x828 := decide (v827 < v826)
 bif x828 then
  bif (decide (v827 < (0 : Int))) then
   none
  else
   match v825[v827.toNat]? with
   | some x829 =>
    impl_NatOk_1 N x829
     (fun x838 =>
      bif x838 then
       k0 v827
      else
       let x839 := (IntKind.i64.wrap (v827 + (1 : Int)))
       next v825 v826 x839)
   | none => none
 else
  k1
noncomputable def slices_IndexFunc_int_int__impl_NatOk_1_L0.b {α : Type} (N n : Nat) (v825 : List Int) (v826 : Int) (v827 : Int) (k0 : Int → Option α) (k1 : Option α) : Option α :=
  Nat.rec (motive := fun _ => List Int → Int → Int → Option α) (fun _ _ _ => none) (fun _ next => slices_IndexFunc_int_int__impl_NatOk_1_L0r N next k0 k1) n v825 v826 v827
theorem slices_IndexFunc_int_int__impl_NatOk_1_L0.ex : ∃ f : ((α : Type) → Nat → Nat → List Int → Int → Int → (Int → Option α) → (Option α) → Option α), f = fun α => @slices_IndexFunc_int_int__impl_NatOk_1_L0.b α := ⟨_, rfl⟩
noncomputable def slices_IndexFunc_int_int__impl_NatOk_1_L0 {α : Type} : Nat → Nat → List Int → Int → Int → (Int → Option α) → (Option α) → Option α := Classical.choose slices_IndexFunc_int_int__impl_NatOk_1_L0.ex α
theorem slices_IndexFunc_int_int__impl_NatOk_1_L0.eq : @slices_IndexFunc_int_int__impl_NatOk_1_L0 = @slices_IndexFunc_int_int__impl_NatOk_1_L0.b := funext fun α => congrFun (Classical.choose_spec slices_IndexFunc_int_int__impl_NatOk_1_L0.ex) α
theorem slices_IndexFunc_int_int__impl_NatOk_1_L0.zero {α : Type} (N : Nat) (v825 : List Int) (v826 : Int) (v827 : Int) (k0 : Int → Option α) (k1 : Option α) : slices_IndexFunc_int_int__impl_NatOk_1_L0 N 0 v825 v826 v827 k0 k1 = none := by rw [slices_IndexFunc_int_int__impl_NatOk_1_L0.eq]; rfl
theorem slices_IndexFunc_int_int__impl_NatOk_1_L0.succ {α : Type} (N n : Nat) (v825 : List Int) (v826 : Int) (v827 : Int) (k0 : Int → Option α) (k1 : Option α) : slices_IndexFunc_int_int__impl_NatOk_1_L0 N (n + 1) v825 v826 v827 k0 k1 = slices_IndexFunc_int_int__impl_NatOk_1_L0r N (fun y0 y1 y2 => slices_IndexFunc_int_int__impl_NatOk_1_L0 N n y0 y1 y2 k0 k1) k0 k1 v825 v826 v827 := by rw [slices_IndexFunc_int_int__impl_NatOk_1_L0.eq]; rfl
/-- slices.IndexFunc[[]int,int] -/
noncomputable def slices_IndexFunc_int_int__impl_NatOk_1.b {α : Type} (N : Nat) (a823 : List Int) (k0 : Int → Option α) : Option α :=
 let x824 := ((a823.length : Nat) : Int)
 slices_IndexFunc_int_int__impl_NatOk_1_L0 N N a823 x824 (0 : Int)
  (fun x840 =>
   k0 x840)
  (
   k0 (-1 : Int))
theorem slices_IndexFunc_int_int__impl_NatOk_1.ex : ∃ f : ((α : Type) → Nat → List Int → (Int → Option α) → Option α), f = fun α => @slices_IndexFunc_int_int__impl_NatOk_1.b α := ⟨_, rfl⟩
noncomputable def slices_IndexFunc_int_int__impl_NatOk_1 {α : Type} : Nat → List Int → (Int → Option α) → Option α := Classical.choose slices_IndexFunc_int_int__impl_NatOk_1.ex α
theorem slices_IndexFunc_int_int__impl_NatOk_1.eq : @slices_IndexFunc_int_int__impl_NatOk_1 = @slices_IndexFunc_int_int__impl_NatOk_1.b := funext fun α => congrFun (Classical.choose_spec slices_IndexFunc_int_int__impl_NatOk_1.ex) α

/-- slices.ContainsFunc[[]int,int] -/
noncomputable def slices_ContainsFunc_int_int__impl_NatOk_1.b {α : Type} (N : Nat) (a822 : List Int) (k0 : Bool → Option α) : Option α :=
 slices_IndexFunc_int_int__impl_NatOk_1 N a822
  (fun x841 =>
   let x842 := (decide ((0 : Int) ≤ x841))
   k0 x842)
theorem slices_ContainsFunc_int_int__impl_NatOk_1.ex : ∃ f : ((α : Type) → Nat → List Int → (Bool → Option α) → Option α), f = fun α => @slices_ContainsFunc_int_int__impl_NatOk_1.b α := ⟨_, rfl⟩
noncomputable def slices_ContainsFunc_int_int__impl_NatOk_1 {α : Type} : Nat → List Int → (Bool → Option α) → Option α := Classical.choose slices_ContainsFunc_int_int__impl_NatOk_1.ex α
theorem slices_ContainsFunc_int_int__impl_NatOk_1.eq : @slices_ContainsFunc_int_int__impl_NatOk_1 = @slices_ContainsFunc_int_int__impl_NatOk_1.b := funext fun α => congrFun (Classical.choose_spec slices_ContainsFunc_int_int__impl_NatOk_1.ex) α

/-- impl.NatOk -/
noncomputable def impl_NatOk.b {α : Type} (N : Nat) (a817 : List Int) (k0 : Bool → Option α) : Option α :=
 let x818 := ((a817.length : Nat) : Int)
 let x819 := (decide (x818 ≤ (256 : Int)))
 bif x819 then
  let x820 := ((a817.length : Nat) : Int)
  let x821 := (decide (x820 = (0 : Int)))
  bif x821 then
   slices_ContainsFunc_int_int__impl_NatOk_1 N a817
    (fun x843 =>
     let x844 := !x843
     k0 x844)
  else
   let x845 := ((a817.length : Nat) : Int)
   let x846 := (IntKind.i64.wrap (x845 - (1 : Int)))
   bif (decide (x846 < (0 : Int))) then
    none
   else
    match a817[x846.toNat]? with
    | some x847 =>
     let x848 := (!(decide (x847 = (0 : Int))))
     bif x848 then
      slices_ContainsFunc_int_int__impl_NatOk_1 N a817
       (fun x849 =>
        let x850 := !x849
        k0 x850)
     else
      k0 false
    | none => none
 else
  k0 false
theorem impl_NatOk.ex : ∃ f : ((α : Type) → Nat → List Int → (Bool → Option α) → Option α), f = fun α => @impl_NatOk.b α := ⟨_, rfl⟩
noncomputable def impl_NatOk {α : Type} : Nat → List Int → (Bool → Option α) → Option α := Classical.choose impl_NatOk.ex α
theorem impl_NatOk.eq : @impl_NatOk = @impl_NatOk.b := funext fun α => congrFun (Classical.choose_spec impl_NatOk.ex) α

/-- impl.nats$1 -/
noncomputable def impl_nats_1.b {α : Type} (N : Nat) (a816 : List Int) (k0 : Bool → Option α) : Option α :=
 impl_NatOk N a816
  (fun x851 =>
   let x852 := !x851
   k0 x852)
theorem impl_nats_1.ex : ∃ f : ((α : Type) → Nat → List Int → (Bool → Option α) → Option α), f = fun α => @impl_nats_1.b α := ⟨_, rfl⟩
noncomputable def impl_nats_1 {α : Type} : Nat → List Int → (Bool → Option α) → Option α := Classical.choose impl_nats_1.ex α
theorem impl_nats_1.eq : @impl_nats_1 = @impl_nats_1.b := funext fun α => congrFun (Classical.choose_spec impl_nats_1.ex) α

noncomputable def slices_IndexFunc_int_int__impl_nats_1_L0r {α : Type} (N : Nat) (next : List (List Int) → Int → Int → Option α) (k0 : Int → Option α) (k1 : Option α) (v811 : List (List Int)) (v812 : Int) (v813 : Int) : Option α :=
 let x814 := decide (v813 < v812)
 bif x814 then
  bif (decide (v813 < (0 : Int))) then
   none
  else
   match v811[v813.toNat]? with
   | some x815 =>
    impl_nats_1 N x815
     (fun x853 =>
      bif x853 then
       k0 v813
      else
       let x854 := (IntKind.i64.wrap (v813 + (1 : Int)))
       next v811 v812 x854)
   | none => none
 else
  k1
noncomputable def slices_IndexFunc_int_int__impl_nats_1_L0.b {α : Type} (N n : Nat) (v811 : List (List Int)) (v812 : Int) (v813 : Int) (k0 : Int → Option α) (k1 : Option α) : Option α :=
  Nat.rec (motive := fun _ => List (List Int) → Int → Int → Option α) (fun _ _ _ => none) (fun _ next => slices_IndexFunc_int_int__impl_nats_1_L0r N next k0 k1) n v811 v812 v813
theorem slices_IndexFunc_int_int__impl_nats_1_L0.ex : ∃ f : ((α : Type) → Nat → Nat → List (List Int) → Int → Int → (Int → Option α) → (Option α) → Option α), f = fun α => @slices_IndexFunc_int_int__impl_nats_1_L0.b α := ⟨_, rfl⟩
noncomputable def slices_IndexFunc_int_int__impl_nats_1_L0 {α : Type} : Nat → Nat → List (List Int) → Int → Int → (Int → Option α) → (Option α) → Option α := Classical.choose slices_IndexFunc_int_int__impl_nats_1_L0.ex α
theorem slices_IndexFunc_int_int__impl_nats_1_L0.eq : @slices_IndexFunc_int_int__impl_nats_1_L0 = @slices_IndexFunc_int_int__impl_nats_1_L0.b := funext fun α => congrFun (Classical.choose_spec slices_IndexFunc_int_int__impl_nats_1_L0.ex) α
theorem slices_IndexFunc_int_int__impl_nats_1_L0.zero {α : Type} (N : Nat) (v811 : List (List Int)) (v812 : Int) (v813 : Int) (k0 : Int → Option α) (k1 : Option α) : slices_IndexFunc_int_int__impl_nats_1_L0 N 0 v811 v812 v813 k0 k1 = none := by rw [slices_IndexFunc_int_int__impl_nats_1_L0.eq]; rfl
theorem slices_IndexFunc_int_int__impl_nats_1_L0.succ {α : Type} (N n : Nat) (v811 : List (List Int)) (v812 : Int) (v813 : Int) (k0 : Int → Option α) (k1 : Option α) : slices_IndexFunc_int_int__impl_nats_1_L0 N (n + 1) v811 v812 v813 k0 k1 = slices_IndexFunc_int_int__impl_nats_1_L0r N (fun y0 y1 y2 => slices_IndexFunc_int_int__impl_nats_1_L0 N n y0 y1 y2 k0 k1) k0 k1 v811 v812 v813 := by rw [slices_IndexFunc_int_int__impl_nats_1_L0.eq]; rfl
/-- slices.IndexFunc[[][]int,[]int] -/
noncomputable def slices_IndexFunc_int_int__impl_nats_1.b {α : Type} (N : Nat) (a809 : List (List Int)) (k0 : Int → Option α) : Option α :=
 let x810 := ((a809.length : Nat) : Int)
 slices_IndexFunc_int_int__impl_nats_1_L0 N N a809 x810 (0 : Int)
  (fun x855 =>
   k0 x855)
  (
   k0 (-1 : Int))
theorem slices_IndexFunc_int_int__impl_nats_1.ex : ∃ f : ((α : Type) → Nat → List (List Int) → (Int → Option α) → Option α), f = fun α => @slices_IndexFunc_int_int__impl_nats_1.b α := ⟨_, rfl⟩
noncomputable def slices_IndexFunc_int_int__impl_nats_1 {α : Type} : Nat → List (List Int) → (Int → Option α) → Option α := Classical.choose slices_IndexFunc_int_int__impl_nats_1.ex α
theorem slices_IndexFunc_int_int__impl_nats_1.eq : @slices_IndexFunc_int_int__impl_nats_1 = @slices_IndexFunc_int_int__impl_nats_1.b := funext fun α => congrFun (Classical.choose_spec slices_IndexFunc_int_int__impl_nats_1.ex) α

/-- slices.ContainsFunc[[][]int,[]int] -/
noncomputable def slices_ContainsFunc_int_int__impl_nats_1.b {α : Type} (N : Nat) (a808 : List (List Int)) (k0 : Bool → Option α) : Option α :=
 slices_IndexFunc_int_int__impl_nats_1 N a808
  (fun x856 =>
   let x857 := (decide ((0 : Int) ≤ x856))
   k0 x857)
theorem slices_ContainsFunc_int_int__impl_nats_1.ex : ∃ f : ((α : Type) → Nat → List (List Int) → (Bool → Option α) → Option α), f = fun α => @slices_ContainsFunc_int_int__impl_nats_1.b α := ⟨_, rfl⟩
noncomputable def slices_ContainsFunc_int_int__impl_nats_1 {α : Type} : Nat → List (List Int) → (Bool → Option α) → Option α := Classical.choose slices_ContainsFunc_int_int__impl_nats_1.ex α
theorem slices_ContainsFunc_int_int__impl_nats_1.eq : @slices_ContainsFunc_int_int__impl_nats_1 = @slices_ContainsFunc_int_int__impl_nats_1.b := funext fun α => congrFun (Classical.choose_spec slices_ContainsFunc_int_int__impl_nats_1.ex) α

/-- impl.nats -/
noncomputable def impl_nats.b {α : Type} (N : Nat) (a807 : List (List Int)) (k0 : Bool → Option α) : Option α :=
 slices_ContainsFunc_int_int__impl_nats_1 N a807
  (fun x858 =>
   let x859 := !x858
   k0 x859)
theorem impl_nats.ex : ∃ f : ((α : Type) → Nat → List (List Int) → (Bool → Option α) → Option α), f = fun α => @impl_nats.b α := ⟨_, rfl⟩
noncomputable def impl_nats {α : Type} : Nat → List (List Int) → (Bool → Option α) → Option α := Classical.choose impl_nats.ex α
theorem impl_nats.eq : @impl_nats = @impl_nats.b := funext fun α => congrFun (Classical.choose_spec impl_nats.ex) α

noncomputable def impl_natCmp_L0r {α : Type} (N : Nat) (next : List Int → List Int → Int → Option α) (k0 : Int → Option α) (k1 : Option α) (v954 : List Int) (v955 : List Int) (v956 : Int) : Option α :=
 let x957 := (decide ((0 : Int) ≤ v956))
 bif x957 then
  bif (decide (v956 < (0 : Int))) then
   none
  else
   match v954[v956.toNat]? with
   | some x958 =>
    bif (decide (v956 < (0 : Int))) then
     none
    else
     match v955[v956.toNat]? with
     | some x959 =>
      let x960 := !(decide (x958 = x959))
      bif x960 then
       bif (decide (v956 < (0 : Int))) then
        none
       else
        match v954[v956.toNat]? with
        | some x961 =>
         bif (decide (v956 < (0 : Int))) then
          none
         else
          match v955[v956.toNat]? with
          | some x962 =>
           let x963 := IntKind.i64.wrap (x961 - x962)
           let x964 := (minI (1 : Int) x963)
           let x965 := (maxI (-1 : Int) x964)
           k0 x965
          | none => none
        | none => none
      else
       let x966 := (IntKind.i64.wrap (v956 - (1 : Int)))
       next v954 v955 x966
     | none => none
   | none => none
 else
  k1
noncomputable def impl_natCmp_L0.b {α : Type} (N n : Nat) (v954 : List Int) (v955 : List Int) (v956 : Int) (k0 : Int → Option α) (k1 : Option α) : Option α :=
  Nat.rec (motive := fun _ => List Int → List Int → Int → Option α) (fun _ _ _ => none) (fun _ next => impl_natCmp_L0r N next k0 k1) n v954 v955 v956
theorem impl_natCmp_L0.ex : ∃ f : ((α : Type) → Nat → Nat → List Int → List Int → Int → (Int → Option α) → (Option α) → Option α), f = fun α => @impl_natCmp_L0.b α := ⟨_, rfl⟩
noncomputable def impl_natCmp_L0 {α : Type} : Nat → Nat → List Int → List Int → Int → (Int → Option α) → (Option α) → Option α := Classical.choose impl_natCmp_L0.ex α
theorem impl_natCmp_L0.eq : @impl_natCmp_L0 = @impl_natCmp_L0.b := funext fun α => congrFun (Classical.choose_spec impl_natCmp_L0.ex) α
theorem impl_natCmp_L0.zero {α : Type} (N : Nat) (v954 : List Int) (v955 : List Int) (v956 : Int) (k0 : Int → Option α) (k1 : Option α) : impl_natCmp_L0 N 0 v954 v955 v956 k0 k1 = none := by rw [impl_natCmp_L0.eq]; rfl
theorem impl_natCmp_L0.succ {α : Type} (N n : Nat) (v954 : List Int) (v955 : List Int) (v956 : Int) (k0 : Int → Option α) (k1 : Option α) : impl_natCmp_L0 N (n + 1) v954 v955 v956 k0 k1 = impl_natCmp_L0r N (fun y0 y1 y2 => impl_natCmp_L0 N n y0 y1 y2 k0 k1) k0 k1 v954 v955 v956 := by rw [impl_natCmp_L0.eq]; rfl
/-- impl.natCmp -/
noncomputable def impl_natCmp.b {α : Type} (N : Nat) (a942 : List Int) (a943 : List Int) (k0 : Int → Option α) : Option α :=
 let x944 := ((a942.length : Nat) : Int)
 let x945 := ((a943.length : Nat) : Int)
 let x946 := !(decide (x944 = x945))
 bif x946 then
  let x947 := ((a942.length : Nat) : Int)
  let x948 := ((a943.length : Nat) : Int)
  let x949 := IntKind.i64.wrap (x947 - x948)
  let x950 := (minI (1 : Int) x949)
  let x951 := (maxI (-1 : Int) x950)
  k0 x951
 else
  let x952 := ((a942.length : Nat) : Int)
  let x953 := (IntKind.i64.wrap (x952 - (1 : Int)))
  impl_natCmp_L0 N N a942 a943 x953
   (fun x967 =>
    k0 x967)
   (
    k0 (0 : Int))
theorem impl_natCmp.ex : ∃ f : ((α : Type) → Nat → List Int → List Int → (Int → Option α) → Option α), f = fun α => @impl_natCmp.b α := ⟨_, rfl⟩
noncomputable def impl_natCmp {α : Type} : Nat → List Int → List Int → (Int → Option α) → Option α := Classical.choose impl_natCmp.ex α
theorem impl_natCmp.eq : @impl_natCmp = @impl_natCmp.b := funext fun α => congrFun (Classical.choose_spec impl_natCmp.ex) α

noncomputable def impl_trim_L0r {α : Type} (N : Nat) (next : List Int → Option α) (k0 : List Int → Option α) (v995 : List Int) : Option α :=
 let x996 := ((v995.length : Nat) : Int)
 let x997 := (decide ((0 : Int) < x996))
 bif x997 then
  let x998 := ((v995.length : Nat) : Int)
  let x999 := (IntKind.i64.wrap (x998 - (1 : Int)))
  bif (decide (x999 < (0 : Int))) then
   none
  else
   match v995[x999.toNat]? with
   | some x1000 =>
    let x1001 := (decide (x1000 = (0 : Int)))
    bif x1001 then
     let x1002 := ((v995.length : Nat) : Int)
     let x1003 := (IntKind.i64.wrap (x1002 - (1 : Int)))
     bif (decide ((0 : Int) ≤ x1003)) then
      bif (decide (x1003 ≤ ((v995.length : Nat) : Int))) then
       let x1004 := v995.take x1003.toNat
       next x1004
      else
       none
     else
      none
    else
     k0 v995
   | none => none
 else
  k0 v995
noncomputable def impl_trim_L0.b {α : Type} (N n : Nat) (v995 : List Int) (k0 : List Int → Option α) : Option α :=
  Nat.rec (motive := fun _ => List Int → Option α) (fun _ => none) (fun _ next => impl_trim_L0r N next k0) n v995
theorem impl_trim_L0.ex : ∃ f : ((α : Type) → Nat → Nat → List Int → (List Int → Option α) → Option α), f = fun α => @impl_trim_L0.b α := ⟨_, rfl⟩
noncomputable def impl_trim_L0 {α : Type} : Nat → Nat → List Int → (List Int → Option α) → Option α := Classical.choose impl_trim_L0.ex α
theorem impl_trim_L0.eq : @impl_trim_L0 = @impl_trim_L0.b := funext fun α => congrFun (Classical.choose_spec impl_trim_L0.ex) α
theorem impl_trim_L0.zero {α : Type} (N : Nat) (v995 : List Int) (k0 : List Int → Option α) : impl_trim_L0 N 0 v995 k0 = none := by rw [impl_trim_L0.eq]; rfl
theorem impl_trim_L0.succ {α : Type} (N n : Nat) (v995 : List Int) (k0 : List Int → Option α) : impl_trim_L0 N (n + 1) v995 k0 = impl_trim_L0r N (fun y0 => impl_trim_L0 N n y0 k0) k0 v995 := by rw [impl_trim_L0.eq]; rfl
/-- impl.trim -/
noncomputable def impl_trim.b {α : Type} (N : Nat) (a994 : List Int) (k0 : List Int → Option α) : Option α :=
 impl_trim_L0 N N a994
  (fun x1005 =>
   k0 x1005)
theorem impl_trim.ex : ∃ f : ((α : Type) → Nat → List Int → (List Int → Option α) → Option α), f = fun α => @impl_trim.b α := ⟨_, rfl⟩
noncomputable def impl_trim {α : Type} : Nat → List Int → (List Int → Option α) → Option α := Classical.choose impl_trim.ex α
theorem impl_trim.eq : @impl_trim = @impl_trim.b := funext fun α => congrFun (Classical.choose_spec impl_trim.ex) α

noncomputable def math_bits_Len64_J1.b {α : Type} (N : Nat) (v1015 : Int) (v1016 : Int) (k0 : Int → Int → Option α) : Option α :=
 let x1017 := (decide ((4294967296 : Int) ≤ v1015))
 bif x1017 then
  let x1018 := (shrI .u64 v1015 (32 : Int))
  k0 x1018 (32 : Int)
 else
  k0 v1015 v1016
theorem math_bits_Len64_J1.ex : ∃ f : ((α : Type) → Nat → Int → Int → (Int → Int → Option α) → Option α), f = fun α => @math_bits_Len64_J1.b α := ⟨_, rfl⟩
noncomputable def math_bits_Len64_J1 {α : Type} : Nat → Int → Int → (Int → Int → Option α) → Option α := Classical.choose math_bits_Len64_J1.ex α
theorem math_bits_Len64_J1.eq : @math_bits_Len64_J1 = @math_bits_Len64_J1.b := funext fun α => congrFun (Classical.choose_spec math_bits_Len64_J1.ex) α
noncomputable def math_bits_Len64_J4.b {α : Type} (N : Nat) (v1021 : Int) (v1022 : Int) (k0 : Int → Int → Option α) : Option α :=
 let x1023 := (decide ((65536 : Int) ≤ v1021))
 bif x1023 then
  let x1024 := (shrI .u64 v1021 (16 : Int))
  let x1025 := (IntKind.i64.wrap (v1022 + (16 : Int)))
  k0 x1024 x1025
 else
  k0 v1021 v1022
theorem math_bits_Len64_J4.ex : ∃ f : ((α : Type) → Nat → Int → Int → (Int → Int → Option α) → Option α), f = fun α => @math_bits_Len64_J4.b α := ⟨_, rfl⟩
noncomputable def math_bits_Len64_J4 {α : Type} : Nat → Int → Int → (Int → Int → Option α) → Option α := Classical.choose math_bits_Len64_J4.ex α
theorem math_bits_Len64_J4.eq : @math_bits_Len64_J4 = @math_bits_Len64_J4.b := funext fun α => congrFun (Classical.choose_spec math_bits_Len64_J4.ex) α
noncomputable def math_bits_Len64_J7.b {α : Type} (N : Nat) (v1028 : Int) (v1029 : Int) (k0 : Int → Int → Option α) : Option α :=
 let x1030 := (decide ((256 : Int) ≤ v1028))
 bif x1030 then
  let x1031 := (shrI .u64 v1028 (8 : Int))
  let x1032 := (IntKind.i64.wrap (v1029 + (8 : Int)))
  k0 x1031 x1032
 else
  k0 v1028 v1029
theorem math_bits_Len64_J7.ex : ∃ f : ((α : Type) → Nat → Int → Int → (Int → Int → Option α) → Option α), f = fun α => @math_bits_Len64_J7.b α := ⟨_, rfl⟩
noncomputable def math_bits_Len64_J7 {α : Type} : Nat → Int → Int → (Int → Int → Option α) → Option α := Classical.choose math_bits_Len64_J7.ex α
theorem math_bits_Len64_J7.eq : @math_bits_Len64_J7 = @math_bits_Len64_J7.b := funext fun α => congrFun (Classical.choose_spec math_bits_Len64_J7.ex) α
/-- math/bits.Len64 -/
noncomputable def math_bits_Len64.b {α : Type} (N : Nat) (a1014 : Int) (k0 : Int → Option α) : Option α :=
 math_bits_Len64_J1 N a1014 (0 : Int)
  (fun x1019 x1020 =>
   math_bits_Len64_J4 N x1019 x1020
    (fun x1026 x1027 =>
     math_bits_Len64_J7 N x1026 x1027
      (fun x1033 x1034 =>
       let x1035 := IntKind.u8.wrap x1033
       bif (decide (x1035 < (0 : Int))) then
        none
       else
        match ((⟨#[0, 1, 2, 2, 3, 3, 3, 3, 4, 4, 4, 4, 4, 4, 4, 4, 5, 5, 5, 5, 5, 5, 5, 5, 5, 5, 5, 5, 5, 5, 5, 5, 6, 6, 6, 6, 6, 6, 6, 6, 6, 6, 6, 6, 6, 6, 6, 6, 6, 6, 6, 6, 6, 6, 6, 6, 6, 6, 6, 6, 6, 6, 6, 6, 7, 7, 7, 7, 7, 7, 7, 7, 7, 7, 7, 7, 7, 7, 7, 7, 7, 7, 7, 7, 7, 7, 7, 7, 7, 7, 7, 7, 7, 7, 7, 7, 7, 7, 7, 7, 7, 7, 7, 7, 7, 7, 7, 7, 7, 7, 7, 7, 7, 7, 7, 7, 7, 7, 7, 7, 7, 7, 7, 7, 7, 7, 7, 7, 8, 8, 8, 8, 8, 8, 8, 8, 8, 8, 8, 8, 8, 8, 8, 8, 8, 8, 8, 8, 8, 8, 8, 8, 8, 8, 8, 8, 8, 8, 8, 8, 8, 8, 8, 8, 8, 8, 8, 8, 8, 8, 8, 8, 8, 8, 8, 8, 8, 8, 8, 8, 8, 8, 8, 8, 8, 8, 8, 8, 8, 8, 8, 8, 8, 8, 8, 8, 8, 8, 8, 8, 8, 8, 8, 8, 8, 8, 8, 8, 8, 8, 8, 8, 8, 8, 8, 8, 8, 8, 8, 8, 8, 8, 8, 8, 8, 8, 8, 8, 8, 8, 8, 8, 8, 8, 8, 8, 8, 8, 8, 8, 8, 8, 8, 8, 8, 8, 8, 8, 8, 8, 8, 8, 8, 8, 8, 8]⟩ : ByteArray)[x1035.toNat]? : Option UInt8) with
        | some x1036 =>
         let x1037 := ((x1036.toNat : Nat) : Int)
         let x1038 := IntKind.i64.wrap x1037
         let x1039 := IntKind.i64.wrap (x1034 + x1038)
         k0 x1039
        | none => none)))
theorem math_bits_Len64.ex : ∃ f : ((α : Type) → Nat → Int → (Int → Option α) → Option α), f = fun α => @math_bits_Len64.b α := ⟨_, rfl⟩
noncomputable def math_bits_Len64 {α : Type} : Nat → Int → (Int → Option α) → Option α := Classical.choose math_bits_Len64.ex α
theorem math_bits_Len64.eq : @math_bits_Len64 = @math_bits_Len64.b := funext fun α => congrFun (Classical.choose_spec math_bits_Len64.ex) α

/-- math/bits.Len -/
noncomputable def math_bits_Len.b {α : Type} (N : Nat) (a1013 : Int) (k0 : Int → Option α) : Option α :=
 math_bits_Len64 N a1013
  (fun x1040 =>
   k0 x1040)
theorem math_bits_Len.ex : ∃ f : ((α : Type) → Nat → Int → (Int → Option α) → Option α), f = fun α => @math_bits_Len.b α := ⟨_, rfl⟩
noncomputable def math_bits_Len {α : Type} : Nat → Int → (Int → Option α) → Option α := Classical.choose math_bits_Len.ex α
theorem math_bits_Len.eq : @math_bits_Len = @math_bits_Len.b := funext fun α => congrFun (Classical.choose_spec math_bits_Len.ex) α

/-- slices.Clone[[]int,int] -/
noncomputable def slices_Clone_int_int {α : Type} (N : Nat) (a1 : List Int) (k0 : List Int → Option α) : Option α :=
  bif decide (([] : List Int).length + a1.length ≤ 8796093022208) then k0 a1 else none

noncomputable def impl_natShift_J10.b {α : Type} (N : Nat) (v1119 : List Int) (v1120 : Int) (v1121 : Int) (v1122 : Int) (v1123 : Int) (v1124 : Int) (v1125 : List Int) (k0 : List Int → Int → Int → Int → Int → List Int → Option α) : Option α :=
 let x1126 := IntKind.i64.wrap (v1120 + v1122)
 let x1127 := (IntKind.i64.wrap (x1126 + (1 : Int)))
 let x1128 := ((v1119.length : Nat) : Int)
 let x1129 := decide (x1127 < x1128)
 bif x1129 then
  bif (decide (v1122 < (0 : Int))) then
   none
  else
   bif decide (v1122.toNat < v1125.length) then
    match v1125[v1122.toNat]? with
    | some x1130 =>
     let x1131 := IntKind.i64.wrap (v1120 + v1122)
     let x1132 := (IntKind.i64.wrap (x1131 + (1 : Int)))
     bif (decide (x1132 < (0 : Int))) then
      none
     else
      match v1119[x1132.toNat]? with
      | some x1133 =>
       let x1134 := (IntKind.i64.wrap ((16 : Int) - v1121))
       bif (decide (x1134 < (0 : Int))) then
        none
       else
        let x1135 := shlI .i64 x1133 x1134
        let x1136 := (bitI .and .i64 x1135 (65535 : Int))
        let x1137 := bitI .or .i64 x1130 x1136
        bif (decide (v1122 < (0 : Int))) then
         none
        else
         bif decide (v1122.toNat < v1125.length) then
          match v1125[v1122.toNat]? with
          | some x1138 =>
           let x1139 := v1125.set v1122.toNat x1137
           k0 v1119 v1120 v1121 v1123 v1124 x1139
          | none => none
         else
          none
      | none => none
    | none => none
   else
    none
 else
  k0 v1119 v1120 v1121 v1123 v1124 v1125
theorem impl_natShift_J10.ex : ∃ f : ((α : Type) → Nat → List Int → Int → Int → Int → Int → Int → List Int → (List Int → Int → Int → Int → Int → List Int → Option α) → Option α), f = fun α => @impl_natShift_J10.b α := ⟨_, rfl⟩
noncomputable def impl_natShift_J10 {α : Type} : Nat → List Int → Int → Int → Int → Int → Int → List Int → (List Int → Int → Int → Int → Int → List Int → Option α) → Option α := Classical.choose impl_natShift_J10.ex α
theorem impl_natShift_J10.eq : @impl_natShift_J10 = @impl_natShift_J10.b := funext fun α => congrFun (Classical.choose_spec impl_natShift_J10.ex) α
noncomputable def impl_natShift_L0r {α : Type} (N : Nat) (next : List Int → Int → Int → Int → Int → List Int → Option α) (k0 : List Int → Option α) (v1108 : List Int) (v1109 : Int) (v1110 : Int) (v1111 : Int) (v1112 : Int) (v1113 : List Int) : Option α :=
 let x1114 := decide (v1112 < v1111)
 bif x1114 then
  bif (decide (v1112 < (0 : Int))) then
   none
  else
   bif decide (v1112.toNat < v1113.length) then
    match v1113[v1112.toNat]? with
    | some x1115 =>
     bif (decide (v1110 < (0 : Int))) then
      none
     else
      let x1116 := shrI .i64 x1115 v1110
      bif (decide (v1112 < (0 : Int))) then
       none
      else
       bif decide (v1112.toNat < v1113.length) then
        match v1113[v1112.toNat]? with
        | some x1117 =>
         let x1118 := v1113.set v1112.toNat x1116
         impl_natShift_J10 N v1108 v1109 v1110 v1112 v1111 v1112 x1118
          (fun x1140 x1141 x1142 x1143 x1144 x1145 =>
           let x1146 := (IntKind.i64.wrap (x1144 + (1 : Int)))
           next x1140 x1141 x1142 x1143 x1146 x1145)
        | none => none
       else
        none
    | none => none
   else
    none
 else
  k0 v1113
noncomputable def impl_natShift_L0.b {α : Type} (N n : Nat) (v1108 : List Int) (v1109 : Int) (v1110 : Int) (v1111 : Int) (v1112 : Int) (v1113 : List Int) (k0 : List Int → Option α) : Option α :=
  Nat.rec (motive := fun _ => List Int → Int → Int → Int → Int → List Int → Option α) (fun _ _ _ _ _ _ => none) (fun _ next => impl_natShift_L0r N next k0) n v1108 v1109 v1110 v1111 v1112 v1113
theorem impl_natShift_L0.ex : ∃ f : ((α : Type) → Nat → Nat → List Int → Int → Int → Int → Int → List Int → (List Int → Option α) → Option α), f = fun α => @impl_natShift_L0.b α := ⟨_, rfl⟩
noncomputable def impl_natShift_L0 {α : Type} : Nat → Nat → List Int → Int → Int → Int → Int → List Int → (List Int → Option α) → Option α := Classical.choose impl_natShift_L0.ex α
theorem impl_natShift_L0.eq : @impl_natShift_L0 = @impl_natShift_L0.b := funext fun α => congrFun (Classical.choose_spec impl_natShift_L0.ex) α
theorem impl_natShift_L0.zero {α : Type} (N : Nat) (v1108 : List Int) (v1109 : Int) (v1110 : Int) (v1111 : Int) (v1112 : Int) (v1113 : List Int) (k0 : List Int → Option α) : impl_natShift_L0 N 0 v1108 v1109 v1110 v1111 v1112 v1113 k0 = none := by rw [impl_natShift_L0.eq]; rfl
theorem impl_natShift_L0.succ {α : Type} (N n : Nat) (v1108 : List Int) (v1109 : Int) (v1110 : Int) (v1111 : Int) (v1112 : Int) (v1113 : List Int) (k0 : List Int → Option α) : impl_natShift_L0 N (n + 1) v1108 v1109 v1110 v1111 v1112 v1113 k0 = impl_natShift_L0r N (fun y0 y1 y2 y3 y4 y5 => impl_natShift_L0 N n y0 y1 y2 y3 y4 y5 k0) k0 v1108 v1109 v1110 v1111 v1112 v1113 := by rw [impl_natShift_L0.eq]; rfl
noncomputable def impl_natShift_L2r {α : Type} (N : Nat) (next : Int → List Int → Int → Int → List Int → Option α) (k0 : List Int → Option α) (v1155 : Int) (v1156 : List Int) (v1157 : Int) (v1158 : Int) (v1159 : List Int) : Option α :=
 let x1160 := decide (v1158 < v1157)
 bif x1160 then
  bif (decide (v1158 < (0 : Int))) then
   none
  else
   match v1156[v1158.toNat]? with
   | some x1161 =>
    let x1162 := (Int.tmod v1155 (16 : Int))
    bif (decide (x1162 < (0 : Int))) then
     none
    else
     let x1163 := shlI .i64 x1161 x1162
     let x1164 := (IntKind.i64.wrap (Int.tdiv v1155 (16 : Int)))
     let x1165 := IntKind.i64.wrap (x1164 + v1158)
     bif (decide (x1165 < (0 : Int))) then
      none
     else
      bif decide (x1165.toNat < v1159.length) then
       match v1159[x1165.toNat]? with
       | some x1166 =>
        let x1167 := (bitI .and .i64 x1163 (65535 : Int))
        let x1168 := bitI .or .i64 x1166 x1167
        bif (decide (x1165 < (0 : Int))) then
         none
        else
         bif decide (x1165.toNat < v1159.length) then
          match v1159[x1165.toNat]? with
          | some x1169 =>
           let x1170 := v1159.set x1165.toNat x1168
           let x1171 := (IntKind.i64.wrap (Int.tdiv v1155 (16 : Int)))
           let x1172 := IntKind.i64.wrap (x1171 + v1158)
           let x1173 := (IntKind.i64.wrap (x1172 + (1 : Int)))
           let x1174 := (shrI .i64 x1163 (16 : Int))
           bif (decide (x1173 < (0 : Int))) then
            none
           else
            bif decide (x1173.toNat < x1170.length) then
             match x1170[x1173.toNat]? with
             | some x1175 =>
              let x1176 := x1170.set x1173.toNat x1174
              let x1177 := (IntKind.i64.wrap (v1158 + (1 : Int)))
              next v1155 v1156 v1157 x1177 x1176
             | none => none
            else
             none
          | none => none
         else
          none
       | none => none
      else
       none
   | none => none
 else
  k0 v1159
noncomputable def impl_natShift_L2.b {α : Type} (N n : Nat) (v1155 : Int) (v1156 : List Int) (v1157 : Int) (v1158 : Int) (v1159 : List Int) (k0 : List Int → Option α) : Option α :=
  Nat.rec (motive := fun _ => Int → List Int → Int → Int → List Int → Option α) (fun _ _ _ _ _ => none) (fun _ next => impl_natShift_L2r N next k0) n v1155 v1156 v1157 v1158 v1159
theorem impl_natShift_L2.ex : ∃ f : ((α : Type) → Nat → Nat → Int → List Int → Int → Int → List Int → (List Int → Option α) → Option α), f = fun α => @impl_natShift_L2.b α := ⟨_, rfl⟩
noncomputable def impl_natShift_L2 {α : Type} : Nat → Nat → Int → List Int → Int → Int → List Int → (List Int → Option α) → Option α := Classical.choose impl_natShift_L2.ex α
theorem impl_natShift_L2.eq : @impl_natShift_L2 = @impl_natShift_L2.b := funext fun α => congrFun (Classical.choose_spec impl_natShift_L2.ex) α
theorem impl_natShift_L2.zero {α : Type} (N : Nat) (v1155 : Int) (v1156 : List Int) (v1157 : Int) (v1158 : Int) (v1159 : List Int) (k0 : List Int → Option α) : impl_natShift_L2 N 0 v1155 v1156 v1157 v1158 v1159 k0 = none := by rw [impl_natShift_L2.eq]; rfl
theorem impl_natShift_L2.succ {α : Type} (N n : Nat) (v1155 : Int) (v1156 : List Int) (v1157 : Int) (v1158 : Int) (v1159 : List Int) (k0 : List Int → Option α) : impl_natShift_L2 N (n + 1) v1155 v1156 v1157 v1158 v1159 k0 = impl_natShift_L2r N (fun y0 y1 y2 y3 y4 => impl_natShift_L2 N n y0 y1 y2 y3 y4 k0) k0 v1155 v1156 v1157 v1158 v1159 := by rw [impl_natShift_L2.eq]; rfl
/-- impl.natShift -/
noncomputable def impl_natShift.b {α : Type} (N : Nat) (a1096 : List Int) (a1097 : Int) (k0 : List Int → Option α) : Option α :=
 let x1098 := (decide (a1097 < (0 : Int)))
 bif x1098 then
  let x1099 := IntKind.i64.wrap (0 - a1097)
  let x1100 := (IntKind.i64.wrap (Int.tdiv x1099 (16 : Int)))
  let x1101 := IntKind.i64.wrap (0 - a1097)
  let x1102 := (Int.tmod x1101 (16 : Int))
  let x1103 := ((a1096.length : Nat) : Int)
  let x1104 := decide (x1103 ≤ x1100)
  bif x1104 then
   k0 []
  else
   bif (decide ((0 : Int) ≤ x1100)) then
    bif (decide (x1100 ≤ ((a1096.length : Nat) : Int))) then
     let x1105 := a1096.drop x1100.toNat
     slices_Clone_int_int N x1105
      (fun x1106 =>
       let x1107 := ((x1106.length : Nat) : Int)
       impl_natShift_L0 N N a1096 x1100 x1102 x1107 (0 : Int) x1106
        (fun x1147 =>
         impl_trim N x1147
          (fun x1148 =>
           k0 x1148)))
    else
     none
   else
    none
 else
  let x1149 := (IntKind.i64.wrap (Int.tdiv a1097 (16 : Int)))
  let x1150 := ((a1096.length : Nat) : Int)
  let x1151 := IntKind.i64.wrap (x1149 + x1150)
  let x1152 := (IntKind.i64.wrap (x1151 + (1 : Int)))
  bif (decide ((0 : Int) ≤ x1152)) then
   bif decide (x1152 ≤ x1152) then
    bif (decide (x1152 ≤ ((8796093022208 : Nat) : Int))) then
     let x1153 := (List.replicate x1152.toNat (0 : Int))
     let x1154 := ((a1096.length : Nat) : Int)
     impl_natShift_L2 N N a1097 a1096 x1154 (0 : Int) x1153
      (fun x1178 =>
       impl_trim N x1178
        (fun x1179 =>
         k0 x1179))
    else
     none
   else
    none
  else
   none
theorem impl_natShift.ex : ∃ f : ((α : Type) → Nat → List Int → Int → (List Int → Option α) → Option α), f = fun α => @impl_natShift.b α := ⟨_, rfl⟩
noncomputable def impl_natShift {α : Type} : Nat → List Int → Int → (List Int → Option α) → Option α := Classical.choose impl_natShift.ex α
theorem impl_natShift.eq : @impl_natShift = @impl_natShift.b := funext fun α => congrFun (Classical.choose_spec impl_natShift.ex) α

noncomputable def impl_natDiv_L0r {α : Type} (N : Nat) (next : List Int → List Int → Int → Int → List Int → Option α) (k0 : Int → List Int → Option α) (v976 : List Int) (v977 : List Int) (v978 : Int) (v979 : Int) (v980 : List Int) : Option α :=
 let x981 := (decide ((0 : Int) ≤ v979))
 bif x981 then
  let x982 := (shlI .i64 v978 (16 : Int))
  bif (decide (v979 < (0 : Int))) then
   none
  else
   match v976[v979.toNat]? with
   | some x983 =>
    let x984 := bitI .or .i64 x982 x983
    match v977[0]? with
    | some x985 =>
     bif (decide (x985 = (0 : Int))) then
      none
     else
      let x986 := IntKind.i64.wrap (Int.tdiv x984 x985)
      match v977[0]? with
      | some x987 =>
       bif (decide (x987 = (0 : Int))) then
        none
       else
        let x988 := Int.tmod x984 x987
        bif (decide (v979 < (0 : Int))) then
         none
        else
         bif decide (v979.toNat < v980.length) then
          match v980[v979.toNat]? with
          | some x989 =>
           let x990 := v980.set v979.toNat x986
           let x991 := (IntKind.i64.wrap (v979 - (1 : Int)))
           next v976 v977 x988 x991 x990
          | none => none
         else
          none
      | none => none
    | none => none
   | none => none
 else
  k0 v978 v980
noncomputable def impl_natDiv_L0.b {α : Type} (N n : Nat) (v976 : List Int) (v977 : List Int) (v978 : Int) (v979 : Int) (v980 : List Int) (k0 : Int → List Int → Option α) : Option α :=
  Nat.rec (motive := fun _ => List Int → List Int → Int → Int → List Int → Option α) (fun _ _ _ _ _ => none) (fun _ next => impl_natDiv_L0r N next k0) n v976 v977 v978 v979 v980
theorem impl_natDiv_L0.ex : ∃ f : ((α : Type) → Nat → Nat → List Int → List Int → Int → Int → List Int → (Int → List Int → Option α) → Option α), f = fun α => @impl_natDiv_L0.b α := ⟨_, rfl⟩
noncomputable def impl_natDiv_L0 {α : Type} : Nat → Nat → List Int → List Int → Int → Int → List Int → (Int → List Int → Option α) → Option α := Classical.choose impl_natDiv_L0.ex α
theorem impl_natDiv_L0.eq : @impl_natDiv_L0 = @impl_natDiv_L0.b := funext fun α => congrFun (Classical.choose_spec impl_natDiv_L0.ex) α
theorem impl_natDiv_L0.zero {α : Type} (N : Nat) (v976 : List Int) (v977 : List Int) (v978 : Int) (v979 : Int) (v980 : List Int) (k0 : Int → List Int → Option α) : impl_natDiv_L0 N 0 v976 v977 v978 v979 v980 k0 = none := by rw [impl_natDiv_L0.eq]; rfl
theorem impl_natDiv_L0.succ {α : Type} (N n : Nat) (v976 : List Int) (v977 : List Int) (v978 : Int) (v979 : Int) (v980 : List Int) (k0 : Int → List Int → Option α) : impl_natDiv_L0 N (n + 1) v976 v977 v978 v979 v980 k0 = impl_natDiv_L0r N (fun y0 y1 y2 y3 y4 => impl_natDiv_L0 N n y0 y1 y2 y3 y4 k0) k0 v976 v977 v978 v979 v980 := by rw [impl_natDiv_L0.eq]; rfl
noncomputable def impl_natDiv_L2r {α : Type} (N : Nat) (next : List Int → Int → List Int → Int → List Int → Option α) (k0 : Int → List Int → Int → List Int → Option α) (v1186 : List Int) (v1187 : Int) (v1188 : List Int) (v1189 : Int) (v1190 : List Int) : Option α :=
 let x1191 := ((v1190.length : Nat) : Int)
 let x1192 := ((v1186.length : Nat) : Int)
 let x1193 := (IntKind.i64.wrap (x1192 + (1 : Int)))
 let x1194 := decide (x1191 < x1193)
 bif x1194 then
  let x1195 := [(0 : Int)]
  bif decide (v1190.length + x1195.length ≤ 8796093022208) then
   let x1196 := v1190 ++ x1195
   next v1186 v1187 v1188 v1189 x1196
  else
   none
 else
  k0 v1187 v1188 v1189 v1190
noncomputable def impl_natDiv_L2.b {α : Type} (N n : Nat) (v1186 : List Int) (v1187 : Int) (v1188 : List Int) (v1189 : Int) (v1190 : List Int) (k0 : Int → List Int → Int → List Int → Option α) : Option α :=
  Nat.rec (motive := fun _ => List Int → Int → List Int → Int → List Int → Option α) (fun _ _ _ _ _ => none) (fun _ next => impl_natDiv_L2r N next k0) n v1186 v1187 v1188 v1189 v1190
theorem impl_natDiv_L2.ex : ∃ f : ((α : Type) → Nat → Nat → List Int → Int → List Int → Int → List Int → (Int → List Int → Int → List Int → Option α) → Option α), f = fun α => @impl_natDiv_L2.b α := ⟨_, rfl⟩
noncomputable def impl_natDiv_L2 {α : Type} : Nat → Nat → List Int → Int → List Int → Int → List Int → (Int → List Int → Int → List Int → Option α) → Option α := Classical.choose impl_natDiv_L2.ex α
theorem impl_natDiv_L2.eq : @impl_natDiv_L2 = @impl_natDiv_L2.b := funext fun α => congrFun (Classical.choose_spec impl_natDiv_L2.ex) α
theorem impl_natDiv_L2.zero {α : Type} (N : Nat) (v1186 : List Int) (v1187 : Int) (v1188 : List Int) (v1189 : Int) (v1190 : List Int) (k0 : Int → List Int → Int → List Int → Option α) : impl_natDiv_L2 N 0 v1186 v1187 v1188 v1189 v1190 k0 = none := by rw [impl_natDiv_L2.eq]; rfl
theorem impl_natDiv_L2.succ {α : Type} (N n : Nat) (v1186 : List Int) (v1187 : Int) (v1188 : List Int) (v1189 : Int) (v1190 : List Int) (k0 : Int → List Int → Int → List Int → Option α) : impl_natDiv_L2 N (n + 1) v1186 v1187 v1188 v1189 v1190 k0 = impl_natDiv_L2r N (fun y0 y1 y2 y3 y4 => impl_natDiv_L2 N n y0 y1 y2 y3 y4 k0) k0 v1186 v1187 v1188 v1189 v1190 := by rw [impl_natDiv_L2.eq]; rfl
noncomputable def impl_natDiv_L6r {α : Type} (N : Nat) (next : Int → List Int → Int → Int → Int → Int → List Int → List Int → Option α) (k0 : Int → List Int → Int → Int → Int → List Int → List Int → Option α) (v1227 : Int) (v1228 : List Int) (v1229 : Int) (v1230 : Int) (v1231 : Int) (v1232 : Int) (v1233 : List Int) (v1234 : List Int) : Option α :=
 let x1235 := (decide ((65536 : Int) ≤ v1231))
 bif x1235 then
  let x1236 := (IntKind.i64.wrap (v1231 - (1 : Int)))
  let x1237 := (IntKind.i64.wrap (v1229 - (1 : Int)))
  bif (decide (x1237 < (0 : Int))) then
   none
  else
   match v1228[x1237.toNat]? with
   | some x1238 =>
    let x1239 := IntKind.i64.wrap (v1232 + x1238)
    let x1240 := (decide ((65536 : Int) ≤ x1239))
    bif x1240 then
     k0 v1227 v1228 v1229 v1230 x1236 v1233 v1234
    else
     next v1227 v1228 v1229 v1230 x1236 x1239 v1233 v1234
   | none => none
 else
  let x1241 := (IntKind.i64.wrap (v1229 - (2 : Int)))
  bif (decide (x1241 < (0 : Int))) then
   none
  else
   match v1228[x1241.toNat]? with
   | some x1242 =>
    let x1243 := IntKind.i64.wrap (v1231 * x1242)
    let x1244 := (shlI .i64 v1232 (16 : Int))
    let x1245 := IntKind.i64.wrap (v1230 + v1229)
    let x1246 := (IntKind.i64.wrap (x1245 - (2 : Int)))
    bif (decide (x1246 < (0 : Int))) then
     none
    else
     bif decide (x1246.toNat < v1233.length) then
      match v1233[x1246.toNat]? with
      | some x1247 =>
       let x1248 := bitI .or .i64 x1244 x1247
       let x1249 := decide (x1248 < x1243)
       bif x1249 then
        let x1250 := (IntKind.i64.wrap (v1231 - (1 : Int)))
        let x1251 := (IntKind.i64.wrap (v1229 - (1 : Int)))
        bif (decide (x1251 < (0 : Int))) then
         none
        else
         match v1228[x1251.toNat]? with
         | some x1252 =>
          let x1253 := IntKind.i64.wrap (v1232 + x1252)
          let x1254 := (decide ((65536 : Int) ≤ x1253))
          bif x1254 then
           k0 v1227 v1228 v1229 v1230 x1250 v1233 v1234
          else
           next v1227 v1228 v1229 v1230 x1250 x1253 v1233 v1234
         | none => none
       else
        k0 v1227 v1228 v1229 v1230 v1231 v1233 v1234
      | none => none
     else
      none
   | none => none
noncomputable def impl_natDiv_L6.b {α : Type} (N n : Nat) (v1227 : Int) (v1228 : List Int) (v1229 : Int) (v1230 : Int) (v1231 : Int) (v1232 : Int) (v1233 : List Int) (v1234 : List Int) (k0 : Int → List Int → Int → Int → Int → List Int → List Int → Option α) : Option α :=
  Nat.rec (motive := fun _ => Int → List Int → Int → Int → Int → Int → List Int → List Int → Option α) (fun _ _ _ _ _ _ _ _ => none) (fun _ next => impl_natDiv_L6r N next k0) n v1227 v1228 v1229 v1230 v1231 v1232 v1233 v1234
theorem impl_natDiv_L6.ex : ∃ f : ((α : Type) → Nat → Nat → Int → List Int → Int → Int → Int → Int → List Int → List Int → (Int → List Int → Int → Int → Int → List Int → List Int → Option α) → Option α), f = fun α => @impl_natDiv_L6.b α := ⟨_, rfl⟩
noncomputable def impl_natDiv_L6 {α : Type} : Nat → Nat → Int → List Int → Int → Int → Int → Int → List Int → List Int → (Int → List Int → Int → Int → Int → List Int → List Int → Option α) → Option α := Classical.choose impl_natDiv_L6.ex α
theorem impl_natDiv_L6.eq : @impl_natDiv_L6 = @impl_natDiv_L6.b := funext fun α => congrFun (Classical.choose_spec impl_natDiv_L6.ex) α
theorem impl_natDiv_L6.zero {α : Type} (N : Nat) (v1227 : Int) (v1228 : List Int) (v1229 : Int) (v1230 : Int) (v1231 : Int) (v1232 : Int) (v1233 : List Int) (v1234 : List Int) (k0 : Int → List Int → Int → Int → Int → List Int → List Int → Option α) : impl_natDiv_L6 N 0 v1227 v1228 v1229 v1230 v1231 v1232 v1233 v1234 k0 = none := by rw [impl_natDiv_L6.eq]; rfl
theorem impl_natDiv_L6.succ {α : Type} (N n : Nat) (v1227 : Int) (v1228 : List Int) (v1229 : Int) (v1230 : Int) (v1231 : Int) (v1232 : Int) (v1233 : List Int) (v1234 : List Int) (k0 : Int → List Int → Int → Int → Int → List Int → List Int → Option α) : impl_natDiv_L6 N (n + 1) v1227 v1228 v1229 v1230 v1231 v1232 v1233 v1234 k0 = impl_natDiv_L6r N (fun y0 y1 y2 y3 y4 y5 y6 y7 => impl_natDiv_L6 N n y0 y1 y2 y3 y4 y5 y6 y7 k0) k0 v1227 v1228 v1229 v1230 v1231 v1232 v1233 v1234 := by rw [impl_natDiv_L6.eq]; rfl
noncomputable def impl_natDiv_J34.b {α : Type} (N : Nat) (v1281 : Int) (v1282 : List Int) (v1283 : Int) (v1284 : Int) (v1285 : Int) (v1286 : Int) (v1287 : Int) (v1288 : Int) (v1289 : List Int) (v1290 : Int) (v1291 : Int) (v1292 : List Int) (v1293 : List Int) (k0 : Int → List Int → Int → Int → Int → Int → Int → Int → List Int → Int → Int → List Int → List Int → Option α) : Option α :=
 let x1294 := (decide (v1288 < (0 : Int)))
 bif x1294 then
  let x1295 := IntKind.i64.wrap (0 - v1288)
  let x1296 := (IntKind.i64.wrap (x1295 + (65536 : Int)))
  let x1297 := (IntKind.i64.wrap (x1296 - (1 : Int)))
  let x1298 := (IntKind.i64.wrap (Int.tdiv x1297 (65536 : Int)))
  let x1299 := (IntKind.i64.wrap (x1298 * (65536 : Int)))
  let x1300 := IntKind.i64.wrap (v1288 + x1299)
  k0 v1281 v1282 v1283 v1284 v1285 x1298 v1287 x1300 v1289 v1290 v1291 v1292 v1293
 else
  k0 v1281 v1282 v1283 v1284 v1285 v1286 v1287 v1288 v1289 v1290 v1291 v1292 v1293
theorem impl_natDiv_J34.ex : ∃ f : ((α : Type) → Nat → Int → List Int → Int → Int → Int → Int → Int → Int → List Int → Int → Int → List Int → List Int → (Int → List Int → Int → Int → Int → Int → Int → Int → List Int → Int → Int → List Int → List Int → Option α) → Option α), f = fun α => @impl_natDiv_J34.b α := ⟨_, rfl⟩
noncomputable def impl_natDiv_J34 {α : Type} : Nat → Int → List Int → Int → Int → Int → Int → Int → Int → List Int → Int → Int → List Int → List Int → (Int → List Int → Int → Int → Int → Int → Int → Int → List Int → Int → Int → List Int → List Int → Option α) → Option α := Classical.choose impl_natDiv_J34.ex α
theorem impl_natDiv_J34.eq : @impl_natDiv_J34 = @impl_natDiv_J34.b := funext fun α => congrFun (Classical.choose_spec impl_natDiv_J34.ex) α
noncomputable def impl_natDiv_L8r {α : Type} (N : Nat) (next : Int → List Int → Int → Int → Int → Int → List Int → Int → Int → List Int → List Int → Option α) (k0 : Int → List Int → Int → Int → Int → Int → List Int → List Int → Option α) (v1263 : Int) (v1264 : List Int) (v1265 : Int) (v1266 : Int) (v1267 : Int) (v1268 : Int) (v1269 : List Int) (v1270 : Int) (v1271 : Int) (v1272 : List Int) (v1273 : List Int) : Option α :=
 let x1274 := decide (v1271 < v1270)
 bif x1274 then
  bif (decide (v1271 < (0 : Int))) then
   none
  else
   match v1269[v1271.toNat]? with
   | some x1275 =>
    let x1276 := IntKind.i64.wrap (v1266 + v1271)
    bif (decide (x1276 < (0 : Int))) then
     none
    else
     bif decide (x1276.toNat < v1272.length) then
      match v1272[x1276.toNat]? with
      | some x1277 =>
       let x1278 := IntKind.i64.wrap (x1277 - v1268)
       let x1279 := IntKind.i64.wrap (v1267 * x1275)
       let x1280 := IntKind.i64.wrap (x1278 - x1279)
       impl_natDiv_J34 N v1263 v1264 v1265 v1266 v1267 (0 : Int) v1271 x1280 v1269 v1270 v1271 v1272 v1273
        (fun x1301 x1302 x1303 x1304 x1305 x1306 x1307 x1308 x1309 x1310 x1311 x1312 x1313 =>
         let x1314 := IntKind.i64.wrap (x1304 + x1307)
         bif (decide (x1314 < (0 : Int))) then
          none
         else
          bif decide (x1314.toNat < x1312.length) then
           match x1312[x1314.toNat]? with
           | some x1315 =>
            let x1316 := x1312.set x1314.toNat x1308
            let x1317 := (IntKind.i64.wrap (x1311 + (1 : Int)))
            next x1301 x1302 x1303 x1304 x1305 x1306 x1309 x1310 x1317 x1316 x1313
           | none => none
          else
           none)
      | none => none
     else
      none
   | none => none
 else
  k0 v1263 v1264 v1265 v1266 v1267 v1268 v1272 v1273
noncomputable def impl_natDiv_L8.b {α : Type} (N n : Nat) (v1263 : Int) (v1264 : List Int) (v1265 : Int) (v1266 : Int) (v1267 : Int) (v1268 : Int) (v1269 : List Int) (v1270 : Int) (v1271 : Int) (v1272 : List Int) (v1273 : List Int) (k0 : Int → List Int → Int → Int → Int → Int → List Int → List Int → Option α) : Option α :=
  Nat.rec (motive := fun _ => Int → List Int → Int → Int → Int → Int → List Int → Int → Int → List Int → List Int → Option α) (fun _ _ _ _ _ _ _ _ _ _ _ => none) (fun _ next => impl_natDiv_L8r N next k0) n v1263 v1264 v1265 v1266 v1267 v1268 v1269 v1270 v1271 v1272 v1273
theorem impl_natDiv_L8.ex : ∃ f : ((α : Type) → Nat → Nat → Int → List Int → Int → Int → Int → Int → List Int → Int → Int → List Int → List Int → (Int → List Int → Int → Int → Int → Int → List Int → List Int → Option α) → Option α), f = fun α => @impl_natDiv_L8.b α := ⟨_, rfl⟩
noncomputable def impl_natDiv_L8 {α : Type} : Nat → Nat → Int → List Int → Int → Int → Int → Int → List Int → Int → Int → List Int → List Int → (Int → List Int → Int → Int → Int → Int → List Int → List Int → Option α) → Option α := Classical.choose impl_natDiv_L8.ex α
theorem impl_natDiv_L8.eq : @impl_natDiv_L8 = @impl_natDiv_L8.b := funext fun α => congrFun (Classical.choose_spec impl_natDiv_L8.ex) α
theorem impl_natDiv_L8.zero {α : Type} (N : Nat) (v1263 : Int) (v1264 : List Int) (v1265 : Int) (v1266 : Int) (v1267 : Int) (v1268 : Int) (v1269 : List Int) (v1270 : Int) (v1271 : Int) (v1272 : List Int) (v1273 : List Int) (k0 : Int → List Int → Int → Int → Int → Int → List Int → List Int → Option α) : impl_natDiv_L8 N 0 v1263 v1264 v1265 v1266 v1267 v1268 v1269 v1270 v1271 v1272 v1273 k0 = none := by rw [impl_natDiv_L8.eq]; rfl
theorem impl_natDiv_L8.succ {α : Type} (N n : Nat) (v1263 : Int) (v1264 : List Int) (v1265 : Int) (v1266 : Int) (v1267 : Int) (v1268 : Int) (v1269 : List Int) (v1270 : Int) (v1271 : Int) (v1272 : List Int) (v1273 : List Int) (k0 : Int → List Int → Int → Int → Int → Int → List Int → List Int → Option α) : impl_natDiv_L8 N (n + 1) v1263 v1264 v1265 v1266 v1267 v1268 v1269 v1270 v1271 v1272 v1273 k0 = impl_natDiv_L8r N (fun y0 y1 y2 y3 y4 y5 y6 y7 y8 y9 y10 => impl_natDiv_L8 N n y0 y1 y2 y3 y4 y5 y6 y7 y8 y9 y10 k0) k0 v1263 v1264 v1265 v1266 v1267 v1268 v1269 v1270 v1271 v1272 v1273 := by rw [impl_natDiv_L8.eq]; rfl
noncomputable def impl_natDiv_L10r {α : Type} (N : Nat) (next : Int → List Int → Int → Int → Int → Int → List Int → Int → Int → List Int → List Int → Option α) (k0 : Int → List Int → Int → Int → Int → Int → List Int → List Int → Option α) (v1343 : Int) (v1344 : List Int) (v1345 : Int) (v1346 : Int) (v1347 : Int) (v1348 : Int) (v1349 : List Int) (v1350 : Int) (v1351 : Int) (v1352 : List Int) (v1353 : List Int) : Option α :=
 let x1354 := decide (v1351 < v1350)
 bif x1354 then
  bif (decide (v1351 < (0 : Int))) then
   none
  else
   match v1349[v1351.toNat]? with
   | some x1355 =>
    let x1356 := IntKind.i64.wrap (v1346 + v1351)
    bif (decide (x1356 < (0 : Int))) then
     none
    else
     bif decide (x1356.toNat < v1352.length) then
      match v1352[x1356.toNat]? with
      | some x1357 =>
       let x1358 := IntKind.i64.wrap (x1357 + x1355)
       let x1359 := IntKind.i64.wrap (x1358 + v1348)
       let x1360 := IntKind.i64.wrap (v1346 + v1351)
       let x1361 := (bitI .and .i64 x1359 (65535 : Int))
       let x1362 := (shrI .i64 x1359 (16 : Int))
       bif (decide (x1360 < (0 : Int))) then
        none
       else
        bif decide (x1360.toNat < v1352.length) then
         match v1352[x1360.toNat]? with
         | some x1363 =>
          let x1364 := v1352.set x1360.toNat x1361
          let x1365 := (IntKind.i64.wrap (v1351 + (1 : Int)))
          next v1343 v1344 v1345 v1346 v1347 x1362 v1349 v1350 x1365 x1364 v1353
         | none => none
        else
         none
      | none => none
     else
      none
   | none => none
 else
  k0 v1343 v1344 v1345 v1346 v1347 v1348 v1352 v1353
noncomputable def impl_natDiv_L10.b {α : Type} (N n : Nat) (v1343 : Int) (v1344 : List Int) (v1345 : Int) (v1346 : Int) (v1347 : Int) (v1348 : Int) (v1349 : List Int) (v1350 : Int) (v1351 : Int) (v1352 : List Int) (v1353 : List Int) (k0 : Int → List Int → Int → Int → Int → Int → List Int → List Int → Option α) : Option α :=
  Nat.rec (motive := fun _ => Int → List Int → Int → Int → Int → Int → List Int → Int → Int → List Int → List Int → Option α) (fun _ _ _ _ _ _ _ _ _ _ _ => none) (fun _ next => impl_natDiv_L10r N next k0) n v1343 v1344 v1345 v1346 v1347 v1348 v1349 v1350 v1351 v1352 v1353
theorem impl_natDiv_L10.ex : ∃ f : ((α : Type) → Nat → Nat → Int → List Int → Int → Int → Int → Int → List Int → Int → Int → List Int → List Int → (Int → List Int → Int → Int → Int → Int → List Int → List Int → Option α) → Option α), f = fun α => @impl_natDiv_L10.b α := ⟨_, rfl⟩
noncomputable def impl_natDiv_L10 {α : Type} : Nat → Nat → Int → List Int → Int → Int → Int → Int → List Int → Int → Int → List Int → List Int → (Int → List Int → Int → Int → Int → Int → List Int → List Int → Option α) → Option α := Classical.choose impl_natDiv_L10.ex α
theorem impl_natDiv_L10.eq : @impl_natDiv_L10 = @impl_natDiv_L10.b := funext fun α => congrFun (Classical.choose_spec impl_natDiv_L10.ex) α
theorem impl_natDiv_L10.zero {α : Type} (N : Nat) (v1343 : Int) (v1344 : List Int) (v1345 : Int) (v1346 : Int) (v1347 : Int) (v1348 : Int) (v1349 : List Int) (v1350 : Int) (v1351 : Int) (v1352 : List Int) (v1353 : List Int) (k0 : Int → List Int → Int → Int → Int → Int → List Int → List Int → Option α) : impl_natDiv_L10 N 0 v1343 v1344 v1345 v1346 v1347 v1348 v1349 v1350 v1351 v1352 v1353 k0 = none := by rw [impl_natDiv_L10.eq]; rfl
theorem impl_natDiv_L10.succ {α : Type} (N n : Nat) (v1343 : Int) (v1344 : List Int) (v1345 : Int) (v1346 : Int) (v1347 : Int) (v1348 : Int) (v1349 : List Int) (v1350 : Int) (v1351 : Int) (v1352 : List Int) (v1353 : List Int) (k0 : Int → List Int → Int → Int → Int → Int → List Int → List Int → Option α) : impl_natDiv_L10 N (n + 1) v1343 v1344 v1345 v1346 v1347 v1348 v1349 v1350 v1351 v1352 v1353 k0 = impl_natDiv_L10r N (fun y0 y1 y2 y3 y4 y5 y6 y7 y8 y9 y10 => impl_natDiv_L10 N n y0 y1 y2 y3 y4 y5 y6 y7 y8 y9 y10 k0) k0 v1343 v1344 v1345 v1346 v1347 v1348 v1349 v1350 v1351 v1352 v1353 := by rw [impl_natDiv_L10.eq]; rfl
noncomputable def impl_natDiv_J40.b {α : Type} (N : Nat) (v1331 : Int) (v1332 : List Int) (v1333 : Int) (v1334 : Int) (v1335 : Int) (v1336 : List Int) (v1337 : List Int) (k0 : Int → List Int → Int → Int → Int → List Int → List Int → Option α) : Option α :=
 let x1338 := IntKind.i64.wrap (v1334 + v1333)
 bif (decide (x1338 < (0 : Int))) then
  none
 else
  bif decide (x1338.toNat < v1336.length) then
   match v1336[x1338.toNat]? with
   | some x1339 =>
    let x1340 := (decide (x1339 < (0 : Int)))
    bif x1340 then
     let x1341 := (IntKind.i64.wrap (v1335 - (1 : Int)))
     let x1342 := ((v1332.length : Nat) : Int)
     impl_natDiv_L10 N N v1331 v1332 v1333 v1334 x1341 (0 : Int) v1332 x1342 (0 : Int) v1336 v1337
      (fun x1366 x1367 x1368 x1369 x1370 x1371 x1372 x1373 =>
       let x1374 := IntKind.i64.wrap (x1369 + x1368)
       bif (decide (x1374 < (0 : Int))) then
        none
       else
        bif decide (x1374.toNat < x1372.length) then
         match x1372[x1374.toNat]? with
         | some x1375 =>
          let x1376 := IntKind.i64.wrap (x1375 + x1371)
          bif (decide (x1374 < (0 : Int))) then
           none
          else
           bif decide (x1374.toNat < x1372.length) then
            match x1372[x1374.toNat]? with
            | some x1377 =>
             let x1378 := x1372.set x1374.toNat x1376
             k0 x1366 x1367 x1368 x1369 x1370 x1378 x1373
            | none => none
           else
            none
         | none => none
        else
         none)
    else
     k0 v1331 v1332 v1333 v1334 v1335 v1336 v1337
   | none => none
  else
   none
theorem impl_natDiv_J40.ex : ∃ f : ((α : Type) → Nat → Int → List Int → Int → Int → Int → List Int → List Int → (Int → List Int → Int → Int → Int → List Int → List Int → Option α) → Option α), f = fun α => @impl_natDiv_J40.b α := ⟨_, rfl⟩
noncomputable def impl_natDiv_J40 {α : Type} : Nat → Int → List Int → Int → Int → Int → List Int → List Int → (Int → List Int → Int → Int → Int → List Int → List Int → Option α) → Option α := Classical.choose impl_natDiv_J40.ex α
theorem impl_natDiv_J40.eq : @impl_natDiv_J40 = @impl_natDiv_J40.b := funext fun α => congrFun (Classical.choose_spec impl_natDiv_J40.ex) α
noncomputable def impl_natDiv_L4r {α : Type} (N : Nat) (next : Int → List Int → Int → Int → List Int → List Int → Option α) (k0 : Int → List Int → List Int → Option α) (v1207 : Int) (v1208 : List Int) (v1209 : Int) (v1210 : Int) (v1211 : List Int) (v1212 : List Int) : Option α :=
 let x1213 := (decide ((0 : Int) ≤ v1210))
 bif x1213 then
  let x1214 := IntKind.i64.wrap (v1210 + v1209)
  bif (decide (x1214 < (0 : Int))) then
   none
  else
   bif decide (x1214.toNat < v1211.length) then
    match v1211[x1214.toNat]? with
    | some x1215 =>
     let x1216 := (shlI .i64 x1215 (16 : Int))
     let x1217 := IntKind.i64.wrap (v1210 + v1209)
     let x1218 := (IntKind.i64.wrap (x1217 - (1 : Int)))
     bif (decide (x1218 < (0 : Int))) then
      none
     else
      bif decide (x1218.toNat < v1211.length) then
       match v1211[x1218.toNat]? with
       | some x1219 =>
        let x1220 := bitI .or .i64 x1216 x1219
        let x1221 := (IntKind.i64.wrap (v1209 - (1 : Int)))
        bif (decide (x1221 < (0 : Int))) then
         none
        else
         match v1208[x1221.toNat]? with
         | some x1222 =>
          bif (decide (x1222 = (0 : Int))) then
           none
          else
           let x1223 := IntKind.i64.wrap (Int.tdiv x1220 x1222)
           let x1224 := (IntKind.i64.wrap (v1209 - (1 : Int)))
           bif (decide (x1224 < (0 : Int))) then
            none
           else
            match v1208[x1224.toNat]? with
            | some x1225 =>
             bif (decide (x1225 = (0 : Int))) then
              none
             else
              let x1226 := Int.tmod x1220 x1225
              impl_natDiv_L6 N N v1207 v1208 v1209 v1210 x1223 x1226 v1211 v1212
               (fun x1255 x1256 x1257 x1258 x1259 x1260 x1261 =>
                let x1262 := ((x1256.length : Nat) : Int)
                impl_natDiv_L8 N N x1255 x1256 x1257 x1258 x1259 (0 : Int) x1256 x1262 (0 : Int) x1260 x1261
                 (fun x1318 x1319 x1320 x1321 x1322 x1323 x1324 x1325 =>
                  let x1326 := IntKind.i64.wrap (x1321 + x1320)
                  bif (decide (x1326 < (0 : Int))) then
                   none
                  else
                   bif decide (x1326.toNat < x1324.length) then
                    match x1324[x1326.toNat]? with
                    | some x1327 =>
                     let x1328 := IntKind.i64.wrap (x1327 - x1323)
                     bif (decide (x1326 < (0 : Int))) then
                      none
                     else
                      bif decide (x1326.toNat < x1324.length) then
                       match x1324[x1326.toNat]? with
                       | some x1329 =>
                        let x1330 := x1324.set x1326.toNat x1328
                        impl_natDiv_J40 N x1318 x1319 x1320 x1321 x1322 x1330 x1325
                         (fun x1379 x1380 x1381 x1382 x1383 x1384 x1385 =>
                          bif (decide (x1382 < (0 : Int))) then
                           none
                          else
                           bif decide (x1382.toNat < x1385.length) then
                            match x1385[x1382.toNat]? with
                            | some x1386 =>
                             let x1387 := x1385.set x1382.toNat x1383
                             let x1388 := (IntKind.i64.wrap (x1382 - (1 : Int)))
                             next x1379 x1380 x1381 x1388 x1384 x1387
                            | none => none
                           else
                            none)
                       | none => none
                      else
                       none
                    | none => none
                   else
                    none))
            | none => none
         | none => none
       | none => none
      else
       none
    | none => none
   else
    none
 else
  k0 v1207 v1211 v1212
noncomputable def impl_natDiv_L4.b {α : Type} (N n : Nat) (v1207 : Int) (v1208 : List Int) (v1209 : Int) (v1210 : Int) (v1211 : List Int) (v1212 : List Int) (k0 : Int → List Int → List Int → Option α) : Option α :=
  Nat.rec (motive := fun _ => Int → List Int → Int → Int → List Int → List Int → Option α) (fun _ _ _ _ _ _ => none) (fun _ next => impl_natDiv_L4r N next k0) n v1207 v1208 v1209 v1210 v1211 v1212
theorem impl_natDiv_L4.ex : ∃ f : ((α : Type) → Nat → Nat → Int → List Int → Int → Int → List Int → List Int → (Int → List Int → List Int → Option α) → Option α), f = fun α => @impl_natDiv_L4.b α := ⟨_, rfl⟩
noncomputable def impl_natDiv_L4 {α : Type} : Nat → Nat → Int → List Int → Int → Int → List Int → List Int → (Int → List Int → List Int → Option α) → Option α := Classical.choose impl_natDiv_L4.ex α
theorem impl_natDiv_L4.eq : @impl_natDiv_L4 = @impl_natDiv_L4.b := funext fun α => congrFun (Classical.choose_spec impl_natDiv_L4.ex) α
theorem impl_natDiv_L4.zero {α : Type} (N : Nat) (v1207 : Int) (v1208 : List Int) (v1209 : Int) (v1210 : Int) (v1211 : List Int) (v1212 : List Int) (k0 : Int → List Int → List Int → Option α) : impl_natDiv_L4 N 0 v1207 v1208 v1209 v1210 v1211 v1212 k0 = none := by rw [impl_natDiv_L4.eq]; rfl
theorem impl_natDiv_L4.succ {α : Type} (N n : Nat) (v1207 : Int) (v1208 : List Int) (v1209 : Int) (v1210 : Int) (v1211 : List Int) (v1212 : List Int) (k0 : Int → List Int → List Int → Option α) : impl_natDiv_L4 N (n + 1) v1207 v1208 v1209 v1210 v1211 v1212 k0 = impl_natDiv_L4r N (fun y0 y1 y2 y3 y4 y5 => impl_natDiv_L4 N n y0 y1 y2 y3 y4 y5 k0) k0 v1207 v1208 v1209 v1210 v1211 v1212 := by rw [impl_natDiv_L4.eq]; rfl
/-- impl.natDiv -/
noncomputable def impl_natDiv.b {α : Type} (N : Nat) (a940 : List Int) (a941 : List Int) (k0 : List Int → List Int → Option α) : Option α :=
 impl_natCmp N a940 a941
  (fun x968 =>
   let x969 := (decide (x968 < (0 : Int)))
   bif x969 then
    k0 [] a940
   else
    let x970 := ((a941.length : Nat) : Int)
    let x971 := (decide (x970 = (1 : Int)))
    bif x971 then
     let x972 := ((a940.length : Nat) : Int)
     bif (decide ((0 : Int) ≤ x972)) then
      bif decide (x972 ≤ x972) then
       bif (decide (x972 ≤ ((8796093022208 : Nat) : Int))) then
        let x973 := (List.replicate x972.toNat (0 : Int))
        let x974 := ((a940.length : Nat) : Int)
        let x975 := (IntKind.i64.wrap (x974 - (1 : Int)))
        impl_natDiv_L0 N N a940 a941 (0 : Int) x975 x973
         (fun x992 x993 =>
          impl_trim N x993
           (fun x1006 =>
            let x1007 := [x992]
            impl_trim N x1007
             (fun x1008 =>
              k0 x1006 x1008)))
       else
        none
      else
       none
     else
      none
    else
     let x1009 := ((a941.length : Nat) : Int)
     let x1010 := (IntKind.i64.wrap (x1009 - (1 : Int)))
     bif (decide (x1010 < (0 : Int))) then
      none
     else
      match a941[x1010.toNat]? with
      | some x1011 =>
       let x1012 := IntKind.u64.wrap x1011
       math_bits_Len N x1012
        (fun x1041 =>
         let x1042 := (IntKind.i64.wrap ((16 : Int) - x1041))
         impl_natShift N a941 x1042
          (fun x1180 =>
           impl_natShift N a940 x1042
            (fun x1181 =>
             slices_Clone_int_int N x1181
              (fun x1182 =>
               let x1183 := [(0 : Int)]
               bif decide (x1182.length + x1183.length ≤ 8796093022208) then
                let x1184 := x1182 ++ x1183
                let x1185 := ((x1180.length : Nat) : Int)
                impl_natDiv_L2 N N a940 x1042 x1180 x1185 x1184
                 (fun x1197 x1198 x1199 x1200 =>
                  let x1201 := ((x1200.length : Nat) : Int)
                  let x1202 := IntKind.i64.wrap (x1201 - x1199)
                  bif (decide ((0 : Int) ≤ x1202)) then
                   bif decide (x1202 ≤ x1202) then
                    bif (decide (x1202 ≤ ((8796093022208 : Nat) : Int))) then
                     let x1203 := (List.replicate x1202.toNat (0 : Int))
                     let x1204 := ((x1200.length : Nat) : Int)
                     let x1205 := IntKind.i64.wrap (x1204 - x1199)
                     let x1206 := (IntKind.i64.wrap (x1205 - (1 : Int)))
                     impl_natDiv_L4 N N x1197 x1198 x1199 x1206 x1200 x1203
                      (fun x1389 x1390 x1391 =>
                       impl_trim N x1391
                        (fun x1392 =>
                         impl_trim N x1390
                          (fun x1393 =>
                           let x1394 := IntKind.i64.wrap (0 - x1389)
                           impl_natShift N x1393 x1394
                            (fun x1395 =>
                             k0 x1392 x1395))))
                    else
                     none
                   else
                    none
                  else
                   none)
               else
                none))))
      | none => none)
theorem impl_natDiv.ex : ∃ f : ((α : Type) → Nat → List Int → List Int → (List Int → List Int → Option α) → Option α), f = fun α => @impl_natDiv.b α := ⟨_, rfl⟩
noncomputable def impl_natDiv {α : Type} : Nat → List Int → List Int → (List Int → List Int → Option α) → Option α := Classical.choose impl_natDiv.ex α
theorem impl_natDiv.eq : @impl_natDiv = @impl_natDiv.b := funext fun α => congrFun (Classical.choose_spec impl_natDiv.ex) α

noncomputable def impl_natGcd_L0r {α : Type} (N : Nat) (next : List Int → List Int → Option α) (k0 : List Int → Option α) (v867 : List Int) (v868 : List Int) : Option α :=
 let x869 := ((v868.length : Nat) : Int)
 let x870 := (decide ((0 : Int) < x869))
 bif x870 then
  impl_natDiv N v867 v868
   (fun _ x1397 =>
    next v868 x1397)
 else
  k0 v867
noncomputable def impl_natGcd_L0.b {α : Type} (N n : Nat) (v867 : List Int) (v868 : List Int) (k0 : List Int → Option α) : Option α :=
  Nat.rec (motive := fun _ => List Int → List Int → Option α) (fun _ _ => none) (fun _ next => impl_natGcd_L0r N next k0) n v867 v868
theorem impl_natGcd_L0.ex : ∃ f : ((α : Type) → Nat → Nat → List Int → List Int → (List Int → Option α) → Option α), f = fun α => @impl_natGcd_L0.b α := ⟨_, rfl⟩
noncomputable def impl_natGcd_L0 {α : Type} : Nat → Nat → List Int → List Int → (List Int → Option α) → Option α := Classical.choose impl_natGcd_L0.ex α
theorem impl_natGcd_L0.eq : @impl_natGcd_L0 = @impl_natGcd_L0.b := funext fun α => congrFun (Classical.choose_spec impl_natGcd_L0.ex) α
theorem impl_natGcd_L0.zero {α : Type} (N : Nat) (v867 : List Int) (v868 : List Int) (k0 : List Int → Option α) : impl_natGcd_L0 N 0 v867 v868 k0 = none := by rw [impl_natGcd_L0.eq]; rfl
theorem impl_natGcd_L0.succ {α : Type} (N n : Nat) (v867 : List Int) (v868 : List Int) (k0 : List Int → Option α) : impl_natGcd_L0 N (n + 1) v867 v868 k0 = impl_natGcd_L0r N (fun y0 y1 => impl_natGcd_L0 N n y0 y1 k0) k0 v867 v868 := by rw [impl_natGcd_L0.eq]; rfl
/-- impl.natGcd -/
noncomputable def impl_natGcd.b {α : Type} (N : Nat) (a865 : List Int) (a866 : List Int) (k0 : List Int → Option α) : Option α :=
 impl_natGcd_L0 N N a865 a866
  (fun x1398 =>
   k0 x1398)
theorem impl_natGcd.ex : ∃ f : ((α : Type) → Nat → List Int → List Int → (List Int → Option α) → Option α), f = fun α => @impl_natGcd.b α := ⟨_, rfl⟩
noncomputable def impl_natGcd {α : Type} : Nat → List Int → List Int → (List Int → Option α) → Option α := Classical.choose impl_natGcd.ex α
theorem impl_natGcd.eq : @impl_natGcd = @impl_natGcd.b := funext fun α => congrFun (Classical.choose_spec impl_natGcd.ex) α

/-- impl.FracOk -/
noncomputable def impl_FracOk.b {α : Type} (N : Nat) (a805 : Bool × (List Int) × (List Int) × Unit) (k0 : Bool → Option α) : Option α :=
 let x806 := [a805.2.1, a805.2.2.1]
 impl_nats N x806
  (fun x860 =>
   bif x860 then
    let x861 := ((a805.2.2.1.length : Nat) : Int)
    let x862 := (decide ((0 : Int) < x861))
    bif x862 then
     let x863 := ((a805.2.1.length : Nat) : Int)
     let x864 := (decide ((0 : Int) < x863))
     bif x864 then
      impl_natGcd N a805.2.1 a805.2.2.1
       (fun x1399 =>
        let x1400 := [(1 : Int)]
        impl_natCmp N x1399 x1400
         (fun x1401 =>
          let x1402 := (decide (x1401 = (0 : Int)))
          k0 x1402))
     else
      let x1403 := !a805.1
      bif x1403 then
       impl_natGcd N a805.2.1 a805.2.2.1
        (fun x1404 =>
         let x1405 := [(1 : Int)]
         impl_natCmp N x1404 x1405
          (fun x1406 =>
           let x1407 := (decide (x1406 = (0 : Int)))
           k0 x1407))
      else
       k0 false
    else
     k0 false
   else
    k0 false)
theorem impl_FracOk.ex : ∃ f : ((α : Type) → Nat → (Bool × (List Int) × (List Int) × Unit) → (Bool → Option α) → Option α), f = fun α => @impl_FracOk.b α := ⟨_, rfl⟩
noncomputable def impl_FracOk {α : Type} : Nat → (Bool × (List Int) × (List Int) × Unit) → (Bool → Option α) → Option α := Classical.choose impl_FracOk.ex α
theorem impl_FracOk.eq : @impl_FracOk = @impl_FracOk.b := funext fun α => congrFun (Classical.choose_spec impl_FracOk.ex) α

noncomputable def impl_natMul_L2r {α : Type} (N : Nat) (next : List Int → Int → Int → Int → List Int → Int → Int → List Int → Int → Int → List Int → Option α) (k0 : List Int → Int → Int → List Int → Int → Int → List Int → Option α) (v1435 : List Int) (v1436 : Int) (v1437 : Int) (v1438 : Int) (v1439 : List Int) (v1440 : Int) (v1441 : Int) (v1442 : List Int) (v1443 : Int) (v1444 : Int) (v1445 : List Int) : Option α :=
 let x1446 := decide (v1444 < v1443)
 bif x1446 then
  bif (decide (v1444 < (0 : Int))) then
   none
  else
   match v1442[v1444.toNat]? with
   | some x1447 =>
    let x1448 := IntKind.i64.wrap (v1436 + v1444)
    bif (decide (x1448 < (0 : Int))) then
     none
    else
     bif decide (x1448.toNat < v1445.length) then
      match v1445[x1448.toNat]? with
      | some x1449 =>
       let x1450 := IntKind.i64.wrap (v1437 * x1447)
       let x1451 := IntKind.i64.wrap (x1449 + x1450)
       let x1452 := IntKind.i64.wrap (x1451 + v1438)
       let x1453 := IntKind.i64.wrap (v1436 + v1444)
       let x1454 := (bitI .and .i64 x1452 (65535 : Int))
       bif (decide (x1453 < (0 : Int))) then
        none
       else
        bif decide (x1453.toNat < v1445.length) then
         match v1445[x1453.toNat]? with
         | some x1455 =>
          let x1456 := v1445.set x1453.toNat x1454
          let x1457 := (shrI .i64 x1452 (16 : Int))
          let x1458 := (IntKind.i64.wrap (v1444 + (1 : Int)))
          next v1435 v1436 v1437 x1457 v1439 v1440 v1441 v1442 v1443 x1458 x1456
         | none => none
        else
         none
      | none => none
     else
      none
   | none => none
 else
  k0 v1435 v1436 v1438 v1439 v1440 v1441 v1445
noncomputable def impl_natMul_L2.b {α : Type} (N n : Nat) (v1435 : List Int) (v1436 : Int) (v1437 : Int) (v1438 : Int) (v1439 : List Int) (v1440 : Int) (v1441 : Int) (v1442 : List Int) (v1443 : Int) (v1444 : Int) (v1445 : List Int) (k0 : List Int → Int → Int → List Int → Int → Int → List Int → Option α) : Option α :=
  Nat.rec (motive := fun _ => List Int → Int → Int → Int → List Int → Int → Int → List Int → Int → Int → List Int → Option α) (fun _ _ _ _ _ _ _ _ _ _ _ => none) (fun _ next => impl_natMul_L2r N next k0) n v1435 v1436 v1437 v1438 v1439 v1440 v1441 v1442 v1443 v1444 v1445
theorem impl_natMul_L2.ex : ∃ f : ((α : Type) → Nat → Nat → List Int → Int → Int → Int → List Int → Int → Int → List Int → Int → Int → List Int → (List Int → Int → Int → List Int → Int → Int → List Int → Option α) → Option α), f = fun α => @impl_natMul_L2.b α := ⟨_, rfl⟩
noncomputable def impl_natMul_L2 {α : Type} : Nat → Nat → List Int → Int → Int → Int → List Int → Int → Int → List Int → Int → Int → List Int → (List Int → Int → Int → List Int → Int → Int → List Int → Option α) → Option α := Classical.choose impl_natMul_L2.ex α
theorem impl_natMul_L2.eq : @impl_natMul_L2 = @impl_natMul_L2.b := funext fun α => congrFun (Classical.choose_spec impl_natMul_L2.ex) α
theorem impl_natMul_L2.zero {α : Type} (N : Nat) (v1435 : List Int) (v1436 : Int) (v1437 : Int) (v1438 : Int) (v1439 : List Int) (v1440 : Int) (v1441 : Int) (v1442 : List Int) (v1443 : Int) (v1444 : Int) (v1445 : List Int) (k0 : List Int → Int → Int → List Int → Int → Int → List Int → Option α) : impl_natMul_L2 N 0 v1435 v1436 v1437 v1438 v1439 v1440 v1441 v1442 v1443 v1444 v1445 k0 = none := by rw [impl_natMul_L2.eq]; rfl
theorem impl_natMul_L2.succ {α : Type} (N n : Nat) (v1435 : List Int) (v1436 : Int) (v1437 : Int) (v1438 : Int) (v1439 : List Int) (v1440 : Int) (v1441 : Int) (v1442 : List Int) (v1443 : Int) (v1444 : Int) (v1445 : List Int) (k0 : List Int → Int → Int → List Int → Int → Int → List Int → Option α) : impl_natMul_L2 N (n + 1) v1435 v1436 v1437 v1438 v1439 v1440 v1441 v1442 v1443 v1444 v1445 k0 = impl_natMul_L2r N (fun y0 y1 y2 y3 y4 y5 y6 y7 y8 y9 y10 => impl_natMul_L2 N n y0 y1 y2 y3 y4 y5 y6 y7 y8 y9 y10 k0) k0 v1435 v1436 v1437 v1438 v1439 v1440 v1441 v1442 v1443 v1444 v1445 := by rw [impl_natMul_L2.eq]; rfl
noncomputable def impl_natMul_L0r {α : Type} (N : Nat) (next : List Int → List Int → Int → Int → List Int → Option α) (k0 : List Int → Option α) (v1427 : List Int) (v1428 : List Int) (v1429 : Int) (v1430 : Int) (v1431 : List Int) : Option α :=
 let x1432 := decide (v1430 < v1429)
 bif x1432 then
  bif (decide (v1430 < (0 : Int))) then
   none
  else
   match v1428[v1430.toNat]? with
   | some x1433 =>
    let x1434 := ((v1427.length : Nat) : Int)
    impl_natMul_L2 N N v1427 v1430 x1433 (0 : Int) v1428 v1429 v1430 v1427 x1434 (0 : Int) v1431
     (fun x1459 x1460 x1461 x1462 x1463 x1464 x1465 =>
      let x1466 := ((x1459.length : Nat) : Int)
      let x1467 := IntKind.i64.wrap (x1460 + x1466)
      bif (decide (x1467 < (0 : Int))) then
       none
      else
       bif decide (x1467.toNat < x1465.length) then
        match x1465[x1467.toNat]? with
        | some x1468 =>
         let x1469 := IntKind.i64.wrap (x1468 + x1461)
         bif (decide (x1467 < (0 : Int))) then
          none
         else
          bif decide (x1467.toNat < x1465.length) then
           match x1465[x1467.toNat]? with
           | some x1470 =>
            let x1471 := x1465.set x1467.toNat x1469
            let x1472 := (IntKind.i64.wrap (x1464 + (1 : Int)))
            next x1459 x1462 x1463 x1472 x1471
           | none => none
          else
           none
        | none => none
       else
        none)
   | none => none
 else
  k0 v1431
noncomputable def impl_natMul_L0.b {α : Type} (N n : Nat) (v1427 : List Int) (v1428 : List Int) (v1429 : Int) (v1430 : Int) (v1431 : List Int) (k0 : List Int → Option α) : Option α :=
  Nat.rec (motive := fun _ => List Int → List Int → Int → Int → List Int → Option α) (fun _ _ _ _ _ => none) (fun _ next => impl_natMul_L0r N next k0) n v1427 v1428 v1429 v1430 v1431
theorem impl_natMul_L0.ex : ∃ f : ((α : Type) → Nat → Nat → List Int → List Int → Int → Int → List Int → (List Int → Option α) → Option α), f = fun α => @impl_natMul_L0.b α := ⟨_, rfl⟩
noncomputable def impl_natMul_L0 {α : Type} : Nat → Nat → List Int → List Int → Int → Int → List Int → (List Int → Option α) → Option α := Classical.choose impl_natMul_L0.ex α
theorem impl_natMul_L0.eq : @impl_natMul_L0 = @impl_natMul_L0.b := funext fun α => congrFun (Classical.choose_spec impl_natMul_L0.ex) α
theorem impl_natMul_L0.zero {α : Type} (N : Nat) (v1427 : List Int) (v1428 : List Int) (v1429 : Int) (v1430 : Int) (v1431 : List Int) (k0 : List Int → Option α) : impl_natMul_L0 N 0 v1427 v1428 v1429 v1430 v1431 k0 = none := by rw [impl_natMul_L0.eq]; rfl
theorem impl_natMul_L0.succ {α : Type} (N n : Nat) (v1427 : List Int) (v1428 : List Int) (v1429 : Int) (v1430 : Int) (v1431 : List Int) (k0 : List Int → Option α) : impl_natMul_L0 N (n + 1) v1427 v1428 v1429 v1430 v1431 k0 = impl_natMul_L0r N (fun y0 y1 y2 y3 y4 => impl_natMul_L0 N n y0 y1 y2 y3 y4 k0) k0 v1427 v1428 v1429 v1430 v1431 := by rw [impl_natMul_L0.eq]; rfl
/-- impl.natMul -/
noncomputable def impl_natMul.b {α : Type} (N : Nat) (a1419 : List Int) (a1420 : List Int) (k0 : List Int → Option α) : Option α :=
 let x1421 := ((a1419.length : Nat) : Int)
 let x1422 := ((a1420.length : Nat) : Int)
 let x1423 := IntKind.i64.wrap (x1421 + x1422)
 let x1424 := (IntKind.i64.wrap (x1423 + (1 : Int)))
 bif (decide ((0 : Int) ≤ x1424)) then
  bif decide (x1424 ≤ x1424) then
   bif (decide (x1424 ≤ ((8796093022208 : Nat) : Int))) then
    let x1425 := (List.replicate x1424.toNat (0 : Int))
    let x1426 := ((a1419.length : Nat) : Int)
    impl_natMul_L0 N N a1420 a1419 x1426 (0 : Int) x1425
     (fun x1473 =>
      impl_trim N x1473
       (fun x1474 =>
        k0 x1474))
   else
    none
  else
   none
 else
  none
theorem impl_natMul.ex : ∃ f : ((α : Type) → Nat → List Int → List Int → (List Int → Option α) → Option α), f = fun α => @impl_natMul.b α := ⟨_, rfl⟩
noncomputable def impl_natMul {α : Type} : Nat → List Int → List Int → (List Int → Option α) → Option α := Classical.choose impl_natMul.ex α
theorem impl_natMul.eq : @impl_natMul = @impl_natMul.b := funext fun α => congrFun (Classical.choose_spec impl_natMul.ex) α

-- prim strconv_Itoa
-- prim strings_Repeat
noncomputable def impl_natText_J7.b {α : Type} (N : Nat) (v1487 : ByteArray) (v1488 : List Int) (v1489 : List Int) (v1490 : Int) (k0 : ByteArray → List Int → Int → Option α) : Option α :=
 let x1491 := ((v1489.length : Nat) : Int)
 let x1492 := (decide ((0 : Int) < x1491))
 bif x1492 then
  match v1489[0]? with
  | some x1493 =>
   k0 v1487 v1488 x1493
  | none => none
 else
  k0 v1487 v1488 v1490
theorem impl_natText_J7.ex : ∃ f : ((α : Type) → Nat → ByteArray → List Int → List Int → Int → (ByteArray → List Int → Int → Option α) → Option α), f = fun α => @impl_natText_J7.b α := ⟨_, rfl⟩
noncomputable def impl_natText_J7 {α : Type} : Nat → ByteArray → List Int → List Int → Int → (ByteArray → List Int → Int → Option α) → Option α := Classical.choose impl_natText_J7.ex α
theorem impl_natText_J7.eq : @impl_natText_J7 = @impl_natText_J7.b := funext fun α => congrFun (Classical.choose_spec impl_natText_J7.ex) α
noncomputable def impl_natText_J10.b {α : Type} (N : Nat) (v1498 : ByteArray) (v1499 : List Int) (v1500 : ByteArray) (k0 : ByteArray → List Int → ByteArray → Option α) : Option α :=
 let x1501 := ((v1499.length : Nat) : Int)
 let x1502 := (decide ((0 : Int) < x1501))
 bif x1502 then
  let x1503 := ((v1500.size : Nat) : Int)
  let x1504 := (IntKind.i64.wrap ((4 : Int) - x1503))
  strings_Repeat N (⟨#[48]⟩ : ByteArray) x1504
   (fun x1505 =>
    bif decide (x1505.size + v1500.size ≤ 9223372036854775807) then
     let x1506 := x1505 ++ v1500
     k0 v1498 v1499 x1506
    else
     none)
 else
  k0 v1498 v1499 v1500
theorem impl_natText_J10.ex : ∃ f : ((α : Type) → Nat → ByteArray → List Int → ByteArray → (ByteArray → List Int → ByteArray → Option α) → Option α), f = fun α => @impl_natText_J10.b α := ⟨_, rfl⟩
noncomputable def impl_natText_J10 {α : Type} : Nat → ByteArray → List Int → ByteArray → (ByteArray → List Int → ByteArray → Option α) → Option α := Classical.choose impl_natText_J10.ex α
theorem impl_natText_J10.eq : @impl_natText_J10 = @impl_natText_J10.b := funext fun α => congrFun (Classical.choose_spec impl_natText_J10.ex) α
noncomputable def impl_natText_L0r {α : Type} (N : Nat) (next : List Int → ByteArray → Option α) (k0 : ByteArray → Option α) (v1480 : List Int) (v1481 : ByteArray) : Option α :=
 let x1482 := ((v1480.length : Nat) : Int)
 let x1483 := (decide ((0 : Int) < x1482))
 bif x1483 then
  let x1484 := [(10000 : Int)]
  impl_natDiv N v1480 x1484
   (fun x1485 x1486 =>
    impl_natText_J7 N v1481 x1485 x1486 (0 : Int)
     (fun x1494 x1495 x1496 =>
      strconv_Itoa N x1496
       (fun x1497 =>
        impl_natText_J10 N x1494 x1495 x1497
         (fun x1507 x1508 x1509 =>
          bif decide (x1509.size + x1507.size ≤ 9223372036854775807) then
           let x1510 := x1509 ++ x1507
           next x1508 x1510
          else
           none))))
 else
  k0 v1481
noncomputable def impl_natText_L0.b {α : Type} (N n : Nat) (v1480 : List Int) (v1481 : ByteArray) (k0 : ByteArray → Option α) : Option α :=
  Nat.rec (motive := fun _ => List Int → ByteArray → Option α) (fun _ _ => none) (fun _ next => impl_natText_L0r N next k0) n v1480 v1481
theorem impl_natText_L0.ex : ∃ f : ((α : Type) → Nat → Nat → List Int → ByteArray → (ByteArray → Option α) → Option α), f = fun α => @impl_natText_L0.b α := ⟨_, rfl⟩
noncomputable def impl_natText_L0 {α : Type} : Nat → Nat → List Int → ByteArray → (ByteArray → Option α) → Option α := Classical.choose impl_natText_L0.ex α
theorem impl_natText_L0.eq : @impl_natText_L0 = @impl_natText_L0.b := funext fun α => congrFun (Classical.choose_spec impl_natText_L0.ex) α
theorem impl_natText_L0.zero {α : Type} (N : Nat) (v1480 : List Int) (v1481 : ByteArray) (k0 : ByteArray → Option α) : impl_natText_L0 N 0 v1480 v1481 k0 = none := by rw [impl_natText_L0.eq]; rfl
theorem impl_natText_L0.succ {α : Type} (N n : Nat) (v1480 : List Int) (v1481 : ByteArray) (k0 : ByteArray → Option α) : impl_natText_L0 N (n + 1) v1480 v1481 k0 = impl_natText_L0r N (fun y0 y1 => impl_natText_L0 N n y0 y1 k0) k0 v1480 v1481 := by rw [impl_natText_L0.eq]; rfl
/-- impl.natText -/
noncomputable def impl_natText.b {α : Type} (N : Nat) (a1477 : List Int) (k0 : ByteArray → Option α) : Option α :=
 let x1478 := ((a1477.length : Nat) : Int)
 let x1479 := (decide (x1478 = (0 : Int)))
 bif x1479 then
  k0 (⟨#[48]⟩ : ByteArray)
 else
  impl_natText_L0 N N a1477 ByteArray.empty
   (fun x1511 =>
    k0 x1511)
theorem impl_natText.ex : ∃ f : ((α : Type) → Nat → List Int → (ByteArray → Option α) → Option α), f = fun α => @impl_natText.b α := ⟨_, rfl⟩
noncomputable def impl_natText {α : Type} : Nat → List Int → (ByteArray → Option α) → Option α := Classical.choose impl_natText.ex α
theorem impl_natText.eq : @impl_natText = @impl_natText.b := funext fun α => congrFun (Classical.choose_spec impl_natText.ex) α

noncomputable def impl_DecText_J11.b {α : Type} (N : Nat) (v1513 : Int) (v1514 : ByteArray) (k0 : ByteArray → Option α) : Option α :=
 let x1515 := (decide ((0 : Int) < v1513))
 bif x1515 then
  let x1516 := (IntKind.i64.wrap (v1513 + (1 : Int)))
  let x1517 := ((v1514.size : Nat) : Int)
  let x1518 := IntKind.i64.wrap (x1516 - x1517)
  let x1519 := (maxI (0 : Int) x1518)
  strings_Repeat N (⟨#[48]⟩ : ByteArray) x1519
   (fun x1520 =>
    bif decide (x1520.size + v1514.size ≤ 9223372036854775807) then
     let x1521 := x1520 ++ v1514
     let x1522 := ((x1521.size : Nat) : Int)
     let x1523 := IntKind.i64.wrap (x1522 - v1513)
     bif (decide ((0 : Int) ≤ x1523)) then
      bif (decide (x1523 ≤ ((x1521.size : Nat) : Int))) then
       let x1524 := x1521.extract 0 x1523.toNat
       bif (decide (x1524.size + (⟨#[46]⟩ : ByteArray).size ≤ 9223372036854775807)) then
        let x1525 := (x1524 ++ (⟨#[46]⟩ : ByteArray))
        let x1526 := ((x1521.size : Nat) : Int)
        let x1527 := IntKind.i64.wrap (x1526 - v1513)
        bif (decide ((0 : Int) ≤ x1527)) then
         bif (decide (x1527 ≤ ((x1521.size : Nat) : Int))) then
          let x1528 := x1521.extract x1527.toNat x1521.size
          bif decide (x1525.size + x1528.size ≤ 9223372036854775807) then
           let x1529 := x1525 ++ x1528
           k0 x1529
          else
           none
         else
          none
        else
         none
       else
        none
      else
       none
     else
      none
    else
     none)
 else
  k0 v1514
theorem impl_DecText_J11.ex : ∃ f : ((α : Type) → Nat → Int → ByteArray → (ByteArray → Option α) → Option α), f = fun α => @impl_DecText_J11.b α := ⟨_, rfl⟩
noncomputable def impl_DecText_J11 {α : Type} : Nat → Int → ByteArray → (ByteArray → Option α) → Option α := Classical.choose impl_DecText_J11.ex α
theorem impl_DecText_J11.eq : @impl_DecText_J11 = @impl_DecText_J11.b := funext fun α => congrFun (Classical.choose_spec impl_DecText_J11.ex) α
noncomputable def impl_DecText_L0r {α : Type} (N : Nat) (next : List Int → Int → (Bool × (List Int) × (List Int) × Unit) → Option α) (k0 : ByteArray → Bool → Option α) (k1 : Option α) (v1410 : List Int) (v1411 : Int) (v1412 : Bool × (List Int) × (List Int) × Unit) : Option α :=
 let x1413 := (decide (v1411 ≤ (60 : Int)))
 bif x1413 then
  impl_natDiv N v1410 v1412.2.2.1
   (fun x1414 x1415 =>
    let x1416 := ((x1415.length : Nat) : Int)
    let x1417 := (decide ((0 : Int) < x1416))
    bif x1417 then
     let x1418 := [(10 : Int)]
     impl_natMul N v1410 x1418
      (fun x1475 =>
       let x1476 := (IntKind.i64.wrap (v1411 + (1 : Int)))
       next x1475 x1476 v1412)
    else
     impl_natText N x1414
      (fun x1512 =>
       impl_DecText_J11 N v1411 x1512
        (fun x1530 =>
         let x1531 := ((x1530.size : Nat) : Int)
         let x1532 := (decide ((60 : Int) < x1531))
         bif x1532 then
          k0 ByteArray.empty false
         else
          k0 x1530 true)))
 else
  k1
noncomputable def impl_DecText_L0.b {α : Type} (N n : Nat) (v1410 : List Int) (v1411 : Int) (v1412 : Bool × (List Int) × (List Int) × Unit) (k0 : ByteArray → Bool → Option α) (k1 : Option α) : Option α :=
  Nat.rec (motive := fun _ => List Int → Int → (Bool × (List Int) × (List Int) × Unit) → Option α) (fun _ _ _ => none) (fun _ next => impl_DecText_L0r N next k0 k1) n v1410 v1411 v1412
theorem impl_DecText_L0.ex : ∃ f : ((α : Type) → Nat → Nat → List Int → Int → (Bool × (List Int) × (List Int) × Unit) → (ByteArray → Bool → Option α) → (Option α) → Option α), f = fun α => @impl_DecText_L0.b α := ⟨_, rfl⟩
noncomputable def impl_DecText_L0 {α : Type} : Nat → Nat → List Int → Int → (Bool × (List Int) × (List Int) × Unit) → (ByteArray → Bool → Option α) → (Option α) → Option α := Classical.choose impl_DecText_L0.ex α
theorem impl_DecText_L0.eq : @impl_DecText_L0 = @impl_DecText_L0.b := funext fun α => congrFun (Classical.choose_spec impl_DecText_L0.ex) α
theorem impl_DecText_L0.zero {α : Type} (N : Nat) (v1410 : List Int) (v1411 : Int) (v1412 : Bool × (List Int) × (List Int) × Unit) (k0 : ByteArray → Bool → Option α) (k1 : Option α) : impl_DecText_L0 N 0 v1410 v1411 v1412 k0 k1 = none := by rw [impl_DecText_L0.eq]; rfl
theorem impl_DecText_L0.succ {α : Type} (N n : Nat) (v1410 : List Int) (v1411 : Int) (v1412 : Bool × (List Int) × (List Int) × Unit) (k0 : ByteArray → Bool → Option α) (k1 : Option α) : impl_DecText_L0 N (n + 1) v1410 v1411 v1412 k0 k1 = impl_DecText_L0r N (fun y0 y1 y2 => impl_DecText_L0 N n y0 y1 y2 k0 k1) k0 k1 v1410 v1411 v1412 := by rw [impl_DecText_L0.eq]; rfl
/-- impl.DecText -/
noncomputable def impl_DecText.b {α : Type} (N : Nat) (a804 : Bool × (List Int) × (List Int) × Unit) (k0 : ByteArray → Bool → Option α) : Option α :=
 impl_FracOk N a804
  (fun x1408 =>
   let x1409 := !x1408
   bif x1409 then
    k0 ByteArray.empty false
   else
    bif a804.1 then
     k0 ByteArray.empty false
    else
     impl_DecText_L0 N N a804.2.1 (0 : Int) a804
      (fun x1533 x1534 =>
       k0 x1533 x1534)
      (
       k0 ByteArray.empty false))
theorem impl_DecText.ex : ∃ f : ((α : Type) → Nat → (Bool × (List Int) × (List Int) × Unit) → (ByteArray → Bool → Option α) → Option α), f = fun α => @impl_DecText.b α := ⟨_, rfl⟩
noncomputable def impl_DecText {α : Type} : Nat → (Bool × (List Int) × (List Int) × Unit) → (ByteArray → Bool → Option α) → Option α := Classical.choose impl_DecText.ex α
theorem impl_DecText.eq : @impl_DecText = @impl_DecText.b := funext fun α => congrFun (Classical.choose_spec impl_DecText.ex) α

noncomputable def laws_eqIntS_L0r {α : Type} (N : Nat) (next : List Int → List Int → Int → Option α) (k0 : Bool → Option α) (k1 : Option α) (v1550 : List Int) (v1551 : List Int) (v1552 : Int) : Option α :=
 let x1553 := ((v1550.length : Nat) : Int)
 let x1554 := decide (v1552 < x1553)
 bif x1554 then
  bif (decide (v1552 < (0 : Int))) then
   none
  else
   match v1550[v1552.toNat]? with
   | some x1555 =>
    bif (decide (v1552 < (0 : Int))) then
     none
    else
     match v1551[v1552.toNat]? with
     | some x1556 =>
      let x1557 := !(decide (x1555 = x1556))
      bif x1557 then
       k0 false
      else
       let x1558 := (IntKind.i64.wrap (v1552 + (1 : Int)))
       next v1550 v1551 x1558
     | none => none
   | none => none
 else
  k1
noncomputable def laws_eqIntS_L0.b {α : Type} (N n : Nat) (v1550 : List Int) (v1551 : List Int) (v1552 : Int) (k0 : Bool → Option α) (k1 : Option α) : Option α :=
  Nat.rec (motive := fun _ => List Int → List Int → Int → Option α) (fun _ _ _ => none) (fun _ next => laws_eqIntS_L0r N next k0 k1) n v1550 v1551 v1552
theorem laws_eqIntS_L0.ex : ∃ f : ((α : Type) → Nat → Nat → List Int → List Int → Int → (Bool → Option α) → (Option α) → Option α), f = fun α => @laws_eqIntS_L0.b α := ⟨_, rfl⟩
noncomputable def laws_eqIntS_L0 {α : Type} : Nat → Nat → List Int → List Int → Int → (Bool → Option α) → (Option α) → Option α := Classical.choose laws_eqIntS_L0.ex α
theorem laws_eqIntS_L0.eq : @laws_eqIntS_L0 = @laws_eqIntS_L0.b := funext fun α => congrFun (Classical.choose_spec laws_eqIntS_L0.ex) α
theorem laws_eqIntS_L0.zero {α : Type} (N : Nat) (v1550 : List Int) (v1551 : List Int) (v1552 : Int) (k0 : Bool → Option α) (k1 : Option α) : laws_eqIntS_L0 N 0 v1550 v1551 v1552 k0 k1 = none := by rw [laws_eqIntS_L0.eq]; rfl
theorem laws_eqIntS_L0.succ {α : Type} (N n : Nat) (v1550 : List Int) (v1551 : List Int) (v1552 : Int) (k0 : Bool → Option α) (k1 : Option α) : laws_eqIntS_L0 N (n + 1) v1550 v1551 v1552 k0 k1 = laws_eqIntS_L0r N (fun y0 y1 y2 => laws_eqIntS_L0 N n y0 y1 y2 k0 k1) k0 k1 v1550 v1551 v1552 := by rw [laws_eqIntS_L0.eq]; rfl
/-- laws.eqIntS -/
noncomputable def laws_eqIntS.b {α : Type} (N : Nat) (a1545 : List Int) (a1546 : List Int) (k0 : Bool → Option α) : Option α :=
 let x1547 := ((a1545.length : Nat) : Int)
 let x1548 := ((a1546.length : Nat) : Int)
 let x1549 := !(decide (x1547 = x1548))
 bif x1549 then
  k0 false
 else
  laws_eqIntS_L0 N N a1545 a1546 (0 : Int)
   (fun x1559 =>
    k0 x1559)
   (
    k0 true)
theorem laws_eqIntS.ex : ∃ f : ((α : Type) → Nat → List Int → List Int → (Bool → Option α) → Option α), f = fun α => @laws_eqIntS.b α := ⟨_, rfl⟩
noncomputable def laws_eqIntS {α : Type} : Nat → List Int → List Int → (Bool → Option α) → Option α := Classical.choose laws_eqIntS.ex α
theorem laws_eqIntS.eq : @laws_eqIntS = @laws_eqIntS.b := funext fun α => congrFun (Classical.choose_spec laws_eqIntS.ex) α

/-- laws.eqFrac -/
noncomputable def laws_eqFrac.b {α : Type} (N : Nat) (a1542 : Bool × (List Int) × (List Int) × Unit) (a1543 : Bool × (List Int) × (List Int) × Unit) (k0 : Bool → Option α) : Option α :=
 let x1544 := !(a1542.1 == a1543.1)
 bif x1544 then
  k0 false
 else
  laws_eqIntS N a1542.2.1 a1543.2.1
   (fun x1560 =>
    let x1561 := !x1560
    bif x1561 then
     k0 false
    else
     laws_eqIntS N a1542.2.2.1 a1543.2.2.1
      (fun x1562 =>
       let x1563 := !x1562
       bif x1563 then
        k0 false
       else
        k0 true))
theorem laws_eqFrac.ex : ∃ f : ((α : Type) → Nat → (Bool × (List Int) × (List Int) × Unit) → (Bool × (List Int) × (List Int) × Unit) → (Bool → Option α) → Option α), f = fun α => @laws_eqFrac.b α := ⟨_, rfl⟩
noncomputable def laws_eqFrac {α : Type} : Nat → (Bool × (List Int) × (List Int) × Unit) → (Bool × (List Int) × (List Int) × Unit) → (Bool → Option α) → Option α := Classical.choose laws_eqFrac.ex α
theorem laws_eqFrac.eq : @laws_eqFrac = @laws_eqFrac.b := funext fun α => congrFun (Classical.choose_spec laws_eqFrac.ex) α

/-- laws.FnExactDecText -/
noncomputable def laws_FnExactDecText.b {α : Type} (N : Nat) (a1 : Bool × (List Int) × (List Int) × Unit) (k0 : Bool → Option α) : Option α :=
 laws_szFrac N a1 (1048576 : Int)
  (fun x13 =>
   let x14 := (decide (x13 < (0 : Int)))
   bif x14 then
    k0 true
   else
    laws_toFrac N a1
     (fun x31 x32 x33 =>
      spec_DecText N (x31, (x32, (x33, ())))
       (fun x799 x800 =>
        laws_toFrac N a1
         (fun x801 x802 x803 =>
          impl_DecText N (x801, (x802, (x803, ())))
           (fun x1535 x1536 =>
            let x1537 := !eqS x1535 x799
            bif x1537 then
             k0 false
            else
             let x1538 := !(x1536 == x800)
             bif x1538 then
              k0 false
             else
              laws_toFrac N a1
               (fun x1539 x1540 x1541 =>
                laws_eqFrac N (x801, (x802, (x803, ()))) (x1539, (x1540, (x1541, ())))
                 (fun x1564 =>
                  let x1565 := !x1564
                  bif x1565 then
                   k0 false
                  else
                   k0 true)))))))
theorem laws_FnExactDecText.ex : ∃ f : ((α : Type) → Nat → (Bool × (List Int) × (List Int) × Unit) → (Bool → Option α) → Option α), f = fun α => @laws_FnExactDecText.b α := ⟨_, rfl⟩
noncomputable def laws_FnExactDecText {α : Type} : Nat → (Bool × (List Int) × (List Int) × Unit) → (Bool → Option α) → Option α := Classical.choose laws_FnExactDecText.ex α
theorem laws_FnExactDecText.eq : @laws_FnExactDecText = @laws_FnExactDecText.b := funext fun α => congrFun (Classical.choose_spec laws_FnExactDecText.ex) α

end
end Go.Proofs.YtnhbcpmmdblkjaaDoorAm
