/-
  The functions that the program computes, as the abstract machine tells them. Printed by amp.py.
-/
import Derived.Test.YthjjaddhcdekjaaDoorAmc
namespace Go.Proofs.YthjjaddhcdekjaaDoorAm
open Go
noncomputable section
set_option linter.unusedVariables false
set_option linter.unusedSimpArgs false

/-- laws.szIntS -/
noncomputable def laws_szIntS.b {α : Type} (N : Nat) (a4 : List Int) (a5 : Int) (k0 : Int → Option α) : Option α :=
 let x6 := ((a4.length : Nat) : Int)
 let x7 := IntKind.i64.wrap (a5 - x6)
 let x8 := (decide (x7 < (0 : Int)))
 bif x8 then
  k0 (-1 : Int)
 else
  k0 x7
theorem laws_szIntS.ex : ∃ f : ((α : Type) → Nat → List Int → Int → (Int → Option α) → Option α), f = fun α => @laws_szIntS.b α := ⟨_, rfl⟩
noncomputable def laws_szIntS {α : Type} : Nat → List Int → Int → (Int → Option α) → Option α := Classical.choose laws_szIntS.ex α
theorem laws_szIntS.eq : @laws_szIntS = @laws_szIntS.b := funext fun α => congrFun (Classical.choose_spec laws_szIntS.ex) α

/-- laws.szFrac -/
noncomputable def laws_szFrac.b {α : Type} (N : Nat) (a2 : Bool × (List Int) × (List Int) × Unit) (a3 : Int) (k0 : Int → Option α) : Option α :=
 laws_szIntS N a2.2.1 a3
  (fun x9 =>
   let x10 := (decide (x9 < (0 : Int)))
   bif x10 then
    k0 (-1 : Int)
   else
    laws_szIntS N a2.2.2.1 x9
     (fun x11 =>
      let x12 := (decide (x11 < (0 : Int)))
      bif x12 then
       k0 (-1 : Int)
      else
       k0 x11))
theorem laws_szFrac.ex : ∃ f : ((α : Type) → Nat → (Bool × (List Int) × (List Int) × Unit) → Int → (Int → Option α) → Option α), f = fun α => @laws_szFrac.b α := ⟨_, rfl⟩
noncomputable def laws_szFrac {α : Type} : Nat → (Bool × (List Int) × (List Int) × Unit) → Int → (Int → Option α) → Option α := Classical.choose laws_szFrac.ex α
theorem laws_szFrac.eq : @laws_szFrac = @laws_szFrac.b := funext fun α => congrFun (Classical.choose_spec laws_szFrac.ex) α

noncomputable def laws_toIntS_L0r {α : Type} (N : Nat) (next : List Int → Int → List Int → Option α) (k0 : List Int → Option α) (v19 : List Int) (v20 : Int) (v21 : List Int) : Option α :=
 let x22 := ((v19.length : Nat) : Int)
 let x23 := decide (v20 < x22)
 bif x23 then
  bif (decide (v20 < (0 : Int))) then
   none
  else
   match v19[v20.toNat]? with
   | some x24 =>
    bif (decide (v20 < (0 : Int))) then
     none
    else
     bif decide (v20.toNat < v21.length) then
      match v21[v20.toNat]? with
      | some x25 =>
       let x26 := v21.set v20.toNat x24
       let x27 := (IntKind.i64.wrap (v20 + (1 : Int)))
       next v19 x27 x26
      | none => none
     else
      none
   | none => none
 else
  k0 v21
noncomputable def laws_toIntS_L0.b {α : Type} (N n : Nat) (v19 : List Int) (v20 : Int) (v21 : List Int) (k0 : List Int → Option α) : Option α :=
  Nat.rec (motive := fun _ => List Int → Int → List Int → Option α) (fun _ _ _ => none) (fun _ next => laws_toIntS_L0r N next k0) n v19 v20 v21
theorem laws_toIntS_L0.ex : ∃ f : ((α : Type) → Nat → Nat → List Int → Int → List Int → (List Int → Option α) → Option α), f = fun α => @laws_toIntS_L0.b α := ⟨_, rfl⟩
noncomputable def laws_toIntS_L0 {α : Type} : Nat → Nat → List Int → Int → List Int → (List Int → Option α) → Option α := Classical.choose laws_toIntS_L0.ex α
theorem laws_toIntS_L0.eq : @laws_toIntS_L0 = @laws_toIntS_L0.b := funext fun α => congrFun (Classical.choose_spec laws_toIntS_L0.ex) α
theorem laws_toIntS_L0.zero {α : Type} (N : Nat) (v19 : List Int) (v20 : Int) (v21 : List Int) (k0 : List Int → Option α) : laws_toIntS_L0 N 0 v19 v20 v21 k0 = none := by rw [laws_toIntS_L0.eq]; rfl
theorem laws_toIntS_L0.succ {α : Type} (N n : Nat) (v19 : List Int) (v20 : Int) (v21 : List Int) (k0 : List Int → Option α) : laws_toIntS_L0 N (n + 1) v19 v20 v21 k0 = laws_toIntS_L0r N (fun y0 y1 y2 => laws_toIntS_L0 N n y0 y1 y2 k0) k0 v19 v20 v21 := by rw [laws_toIntS_L0.eq]; rfl
/-- laws.toIntS -/
noncomputable def laws_toIntS.b {α : Type} (N : Nat) (a16 : List Int) (k0 : List Int → Option α) : Option α :=
 let x17 := ((a16.length : Nat) : Int)
 bif (decide ((0 : Int) ≤ x17)) then
  bif decide (x17 ≤ x17) then
   bif (decide (x17 ≤ ((8796093022208 : Nat) : Int))) then
    let x18 := (List.replicate x17.toNat (0 : Int))
    laws_toIntS_L0 N N a16 (0 : Int) x18
     (fun x28 =>
      k0 x28)
   else
    none
  else
   none
 else
  none
theorem laws_toIntS.ex : ∃ f : ((α : Type) → Nat → List Int → (List Int → Option α) → Option α), f = fun α => @laws_toIntS.b α := ⟨_, rfl⟩
noncomputable def laws_toIntS {α : Type} : Nat → List Int → (List Int → Option α) → Option α := Classical.choose laws_toIntS.ex α
theorem laws_toIntS.eq : @laws_toIntS = @laws_toIntS.b := funext fun α => congrFun (Classical.choose_spec laws_toIntS.ex) α

/-- laws.toFrac -/
noncomputable def laws_toFrac.b {α : Type} (N : Nat) (a15 : Bool × (List Int) × (List Int) × Unit) (k0 : Bool → List Int → List Int → Option α) : Option α :=
 laws_toIntS N a15.2.1
  (fun x29 =>
   laws_toIntS N a15.2.2.1
    (fun x30 =>
     k0 a15.1 x29 x30))
theorem laws_toFrac.ex : ∃ f : ((α : Type) → Nat → (Bool × (List Int) × (List Int) × Unit) → (Bool → List Int → List Int → Option α) → Option α), f = fun α => @laws_toFrac.b α := ⟨_, rfl⟩
noncomputable def laws_toFrac {α : Type} : Nat → (Bool × (List Int) × (List Int) × Unit) → (Bool → List Int → List Int → Option α) → Option α := Classical.choose laws_toFrac.ex α
theorem laws_toFrac.eq : @laws_toFrac = @laws_toFrac.b := funext fun α => congrFun (Classical.choose_spec laws_toFrac.ex) α

noncomputable def spec_NatOk_L0r {α : Type} (N : Nat) (next : List Int → Int → Option α) (k0 : Bool → Option α) (k1 : List Int → Option α) (v39 : List Int) (v40 : Int) : Option α :=
 let x41 := ((v39.length : Nat) : Int)
 let x42 := decide (v40 < x41)
 bif x42 then
  bif (decide (v40 < (0 : Int))) then
   none
  else
   match v39[v40.toNat]? with
   | some x43 =>
    let x44 := (decide (x43 < (0 : Int)))
    bif x44 then
     k0 false
    else
     bif (decide (v40 < (0 : Int))) then
      none
     else
      match v39[v40.toNat]? with
      | some x45 =>
       let x46 := (decide ((65536 : Int) ≤ x45))
       bif x46 then
        k0 false
       else
        let x47 := (IntKind.i64.wrap (v40 + (1 : Int)))
        next v39 x47
      | none => none
   | none => none
 else
  k1 v39
noncomputable def spec_NatOk_L0.b {α : Type} (N n : Nat) (v39 : List Int) (v40 : Int) (k0 : Bool → Option α) (k1 : List Int → Option α) : Option α :=
  Nat.rec (motive := fun _ => List Int → Int → Option α) (fun _ _ => none) (fun _ next => spec_NatOk_L0r N next k0 k1) n v39 v40
theorem spec_NatOk_L0.ex : ∃ f : ((α : Type) → Nat → Nat → List Int → Int → (Bool → Option α) → (List Int → Option α) → Option α), f = fun α => @spec_NatOk_L0.b α := ⟨_, rfl⟩
noncomputable def spec_NatOk_L0 {α : Type} : Nat → Nat → List Int → Int → (Bool → Option α) → (List Int → Option α) → Option α := Classical.choose spec_NatOk_L0.ex α
theorem spec_NatOk_L0.eq : @spec_NatOk_L0 = @spec_NatOk_L0.b := funext fun α => congrFun (Classical.choose_spec spec_NatOk_L0.ex) α
theorem spec_NatOk_L0.zero {α : Type} (N : Nat) (v39 : List Int) (v40 : Int) (k0 : Bool → Option α) (k1 : List Int → Option α) : spec_NatOk_L0 N 0 v39 v40 k0 k1 = none := by rw [spec_NatOk_L0.eq]; rfl
theorem spec_NatOk_L0.succ {α : Type} (N n : Nat) (v39 : List Int) (v40 : Int) (k0 : Bool → Option α) (k1 : List Int → Option α) : spec_NatOk_L0 N (n + 1) v39 v40 k0 k1 = spec_NatOk_L0r N (fun y0 y1 => spec_NatOk_L0 N n y0 y1 k0 k1) k0 k1 v39 v40 := by rw [spec_NatOk_L0.eq]; rfl
/-- spec.NatOk -/
noncomputable def spec_NatOk.b {α : Type} (N : Nat) (a36 : List Int) (k0 : Bool → Option α) : Option α :=
 let x37 := ((a36.length : Nat) : Int)
 let x38 := (decide ((256 : Int) < x37))
 bif x38 then
  k0 false
 else
  spec_NatOk_L0 N N a36 (0 : Int)
   (fun x48 =>
    k0 x48)
   (fun x49 =>
    let x50 := ((x49.length : Nat) : Int)
    let x51 := (decide (x50 = (0 : Int)))
    bif x51 then
     k0 true
    else
     let x52 := ((x49.length : Nat) : Int)
     let x53 := (IntKind.i64.wrap (x52 - (1 : Int)))
     bif (decide (x53 < (0 : Int))) then
      none
     else
      match x49[x53.toNat]? with
      | some x54 =>
       let x55 := (!(decide (x54 = (0 : Int))))
       k0 x55
      | none => none)
theorem spec_NatOk.ex : ∃ f : ((α : Type) → Nat → List Int → (Bool → Option α) → Option α), f = fun α => @spec_NatOk.b α := ⟨_, rfl⟩
noncomputable def spec_NatOk {α : Type} : Nat → List Int → (Bool → Option α) → Option α := Classical.choose spec_NatOk.ex α
theorem spec_NatOk.eq : @spec_NatOk = @spec_NatOk.b := funext fun α => congrFun (Classical.choose_spec spec_NatOk.ex) α

noncomputable def spec_l5Trim_L0r {α : Type} (N : Nat) (next : List Int → Int → Option α) (k0 : List Int → Int → Option α) (v68 : List Int) (v69 : Int) : Option α :=
 let x70 := (decide ((0 : Int) < v69))
 bif x70 then
  let x71 := (IntKind.i64.wrap (v69 - (1 : Int)))
  bif (decide (x71 < (0 : Int))) then
   none
  else
   match v68[x71.toNat]? with
   | some x72 =>
    let x73 := (decide (x72 = (0 : Int)))
    bif x73 then
     let x74 := (IntKind.i64.wrap (v69 - (1 : Int)))
     next v68 x74
    else
     k0 v68 v69
   | none => none
 else
  k0 v68 v69
noncomputable def spec_l5Trim_L0.b {α : Type} (N n : Nat) (v68 : List Int) (v69 : Int) (k0 : List Int → Int → Option α) : Option α :=
  Nat.rec (motive := fun _ => List Int → Int → Option α) (fun _ _ => none) (fun _ next => spec_l5Trim_L0r N next k0) n v68 v69
theorem spec_l5Trim_L0.ex : ∃ f : ((α : Type) → Nat → Nat → List Int → Int → (List Int → Int → Option α) → Option α), f = fun α => @spec_l5Trim_L0.b α := ⟨_, rfl⟩
noncomputable def spec_l5Trim_L0 {α : Type} : Nat → Nat → List Int → Int → (List Int → Int → Option α) → Option α := Classical.choose spec_l5Trim_L0.ex α
theorem spec_l5Trim_L0.eq : @spec_l5Trim_L0 = @spec_l5Trim_L0.b := funext fun α => congrFun (Classical.choose_spec spec_l5Trim_L0.ex) α
theorem spec_l5Trim_L0.zero {α : Type} (N : Nat) (v68 : List Int) (v69 : Int) (k0 : List Int → Int → Option α) : spec_l5Trim_L0 N 0 v68 v69 k0 = none := by rw [spec_l5Trim_L0.eq]; rfl
theorem spec_l5Trim_L0.succ {α : Type} (N n : Nat) (v68 : List Int) (v69 : Int) (k0 : List Int → Int → Option α) : spec_l5Trim_L0 N (n + 1) v68 v69 k0 = spec_l5Trim_L0r N (fun y0 y1 => spec_l5Trim_L0 N n y0 y1 k0) k0 v68 v69 := by rw [spec_l5Trim_L0.eq]; rfl
noncomputable def spec_l5Trim_L2r {α : Type} (N : Nat) (next : List Int → Int → Int → List Int → Option α) (k0 : List Int → Option α) (v77 : List Int) (v78 : Int) (v79 : Int) (v80 : List Int) : Option α :=
 let x81 := decide (v79 < v78)
 bif x81 then
  bif (decide (v79 < (0 : Int))) then
   none
  else
   match v77[v79.toNat]? with
   | some x82 =>
    let x83 := [x82]
    bif decide (v80.length + x83.length ≤ 8796093022208) then
     let x84 := v80 ++ x83
     let x85 := (IntKind.i64.wrap (v79 + (1 : Int)))
     next v77 v78 x85 x84
    else
     none
   | none => none
 else
  k0 v80
noncomputable def spec_l5Trim_L2.b {α : Type} (N n : Nat) (v77 : List Int) (v78 : Int) (v79 : Int) (v80 : List Int) (k0 : List Int → Option α) : Option α :=
  Nat.rec (motive := fun _ => List Int → Int → Int → List Int → Option α) (fun _ _ _ _ => none) (fun _ next => spec_l5Trim_L2r N next k0) n v77 v78 v79 v80
theorem spec_l5Trim_L2.ex : ∃ f : ((α : Type) → Nat → Nat → List Int → Int → Int → List Int → (List Int → Option α) → Option α), f = fun α => @spec_l5Trim_L2.b α := ⟨_, rfl⟩
noncomputable def spec_l5Trim_L2 {α : Type} : Nat → Nat → List Int → Int → Int → List Int → (List Int → Option α) → Option α := Classical.choose spec_l5Trim_L2.ex α
theorem spec_l5Trim_L2.eq : @spec_l5Trim_L2 = @spec_l5Trim_L2.b := funext fun α => congrFun (Classical.choose_spec spec_l5Trim_L2.ex) α
theorem spec_l5Trim_L2.zero {α : Type} (N : Nat) (v77 : List Int) (v78 : Int) (v79 : Int) (v80 : List Int) (k0 : List Int → Option α) : spec_l5Trim_L2 N 0 v77 v78 v79 v80 k0 = none := by rw [spec_l5Trim_L2.eq]; rfl
theorem spec_l5Trim_L2.succ {α : Type} (N n : Nat) (v77 : List Int) (v78 : Int) (v79 : Int) (v80 : List Int) (k0 : List Int → Option α) : spec_l5Trim_L2 N (n + 1) v77 v78 v79 v80 k0 = spec_l5Trim_L2r N (fun y0 y1 y2 y3 => spec_l5Trim_L2 N n y0 y1 y2 y3 k0) k0 v77 v78 v79 v80 := by rw [spec_l5Trim_L2.eq]; rfl
/-- spec.l5Trim -/
noncomputable def spec_l5Trim.b {α : Type} (N : Nat) (a66 : List Int) (k0 : List Int → Option α) : Option α :=
 let x67 := ((a66.length : Nat) : Int)
 spec_l5Trim_L0 N N a66 x67
  (fun x75 x76 =>
   spec_l5Trim_L2 N N x75 x76 (0 : Int) []
    (fun x86 =>
     k0 x86))
theorem spec_l5Trim.ex : ∃ f : ((α : Type) → Nat → List Int → (List Int → Option α) → Option α), f = fun α => @spec_l5Trim.b α := ⟨_, rfl⟩
noncomputable def spec_l5Trim {α : Type} : Nat → List Int → (List Int → Option α) → Option α := Classical.choose spec_l5Trim.ex α
theorem spec_l5Trim.eq : @spec_l5Trim = @spec_l5Trim.b := funext fun α => congrFun (Classical.choose_spec spec_l5Trim.ex) α

noncomputable def spec_l5Cmp_L0r {α : Type} (N : Nat) (next : List Int → List Int → Int → Option α) (k0 : Int → Option α) (k1 : Option α) (v105 : List Int) (v106 : List Int) (v107 : Int) : Option α :=
 let x108 := (decide ((0 : Int) ≤ v107))
 bif x108 then
  bif (decide (v107 < (0 : Int))) then
   none
  else
   match v105[v107.toNat]? with
   | some x109 =>
    bif (decide (v107 < (0 : Int))) then
     none
    else
     match v106[v107.toNat]? with
     | some x110 =>
      let x111 := decide (x109 < x110)
      bif x111 then
       k0 (-1 : Int)
      else
       bif (decide (v107 < (0 : Int))) then
        none
       else
        match v105[v107.toNat]? with
        | some x112 =>
         bif (decide (v107 < (0 : Int))) then
          none
         else
          match v106[v107.toNat]? with
          | some x113 =>
           let x114 := decide (x113 < x112)
           bif x114 then
            k0 (1 : Int)
           else
            let x115 := (IntKind.i64.wrap (v107 - (1 : Int)))
            next v105 v106 x115
          | none => none
        | none => none
     | none => none
   | none => none
 else
  k1
noncomputable def spec_l5Cmp_L0.b {α : Type} (N n : Nat) (v105 : List Int) (v106 : List Int) (v107 : Int) (k0 : Int → Option α) (k1 : Option α) : Option α :=
  Nat.rec (motive := fun _ => List Int → List Int → Int → Option α) (fun _ _ _ => none) (fun _ next => spec_l5Cmp_L0r N next k0 k1) n v105 v106 v107
theorem spec_l5Cmp_L0.ex : ∃ f : ((α : Type) → Nat → Nat → List Int → List Int → Int → (Int → Option α) → (Option α) → Option α), f = fun α => @spec_l5Cmp_L0.b α := ⟨_, rfl⟩
noncomputable def spec_l5Cmp_L0 {α : Type} : Nat → Nat → List Int → List Int → Int → (Int → Option α) → (Option α) → Option α := Classical.choose spec_l5Cmp_L0.ex α
theorem spec_l5Cmp_L0.eq : @spec_l5Cmp_L0 = @spec_l5Cmp_L0.b := funext fun α => congrFun (Classical.choose_spec spec_l5Cmp_L0.ex) α
theorem spec_l5Cmp_L0.zero {α : Type} (N : Nat) (v105 : List Int) (v106 : List Int) (v107 : Int) (k0 : Int → Option α) (k1 : Option α) : spec_l5Cmp_L0 N 0 v105 v106 v107 k0 k1 = none := by rw [spec_l5Cmp_L0.eq]; rfl
theorem spec_l5Cmp_L0.succ {α : Type} (N n : Nat) (v105 : List Int) (v106 : List Int) (v107 : Int) (k0 : Int → Option α) (k1 : Option α) : spec_l5Cmp_L0 N (n + 1) v105 v106 v107 k0 k1 = spec_l5Cmp_L0r N (fun y0 y1 y2 => spec_l5Cmp_L0 N n y0 y1 y2 k0 k1) k0 k1 v105 v106 v107 := by rw [spec_l5Cmp_L0.eq]; rfl
/-- spec.l5Cmp -/
noncomputable def spec_l5Cmp.b {α : Type} (N : Nat) (a95 : List Int) (a96 : List Int) (k0 : Int → Option α) : Option α :=
 let x97 := ((a95.length : Nat) : Int)
 let x98 := ((a96.length : Nat) : Int)
 let x99 := decide (x97 < x98)
 bif x99 then
  k0 (-1 : Int)
 else
  let x100 := ((a95.length : Nat) : Int)
  let x101 := ((a96.length : Nat) : Int)
  let x102 := decide (x101 < x100)
  bif x102 then
   k0 (1 : Int)
  else
   let x103 := ((a95.length : Nat) : Int)
   let x104 := (IntKind.i64.wrap (x103 - (1 : Int)))
   spec_l5Cmp_L0 N N a95 a96 x104
    (fun x116 =>
     k0 x116)
    (
     k0 (0 : Int))
theorem spec_l5Cmp.ex : ∃ f : ((α : Type) → Nat → List Int → List Int → (Int → Option α) → Option α), f = fun α => @spec_l5Cmp.b α := ⟨_, rfl⟩
noncomputable def spec_l5Cmp {α : Type} : Nat → List Int → List Int → (Int → Option α) → Option α := Classical.choose spec_l5Cmp.ex α
theorem spec_l5Cmp.eq : @spec_l5Cmp = @spec_l5Cmp.b := funext fun α => congrFun (Classical.choose_spec spec_l5Cmp.ex) α

noncomputable def spec_l5DivSmall_L0r {α : Type} (N : Nat) (next : List Int → Int → Int → Int → List Int → Option α) (k0 : Int → List Int → Option α) (v129 : List Int) (v130 : Int) (v131 : Int) (v132 : Int) (v133 : List Int) : Option α :=
 let x134 := (decide ((0 : Int) ≤ v132))
 bif x134 then
  let x135 := (IntKind.i64.wrap (v131 * (65536 : Int)))
  bif (decide (v132 < (0 : Int))) then
   none
  else
   match v129[v132.toNat]? with
   | some x136 =>
    let x137 := IntKind.i64.wrap (x135 + x136)
    bif (decide (v130 = (0 : Int))) then
     none
    else
     let x138 := IntKind.i64.wrap (Int.tdiv x137 v130)
     bif (decide (v132 < (0 : Int))) then
      none
     else
      bif decide (v132.toNat < v133.length) then
       match v133[v132.toNat]? with
       | some x139 =>
        let x140 := v133.set v132.toNat x138
        bif (decide (v130 = (0 : Int))) then
         none
        else
         let x141 := Int.tmod x137 v130
         let x142 := (IntKind.i64.wrap (v132 - (1 : Int)))
         next v129 v130 x141 x142 x140
       | none => none
      else
       none
   | none => none
 else
  k0 v131 v133
noncomputable def spec_l5DivSmall_L0.b {α : Type} (N n : Nat) (v129 : List Int) (v130 : Int) (v131 : Int) (v132 : Int) (v133 : List Int) (k0 : Int → List Int → Option α) : Option α :=
  Nat.rec (motive := fun _ => List Int → Int → Int → Int → List Int → Option α) (fun _ _ _ _ _ => none) (fun _ next => spec_l5DivSmall_L0r N next k0) n v129 v130 v131 v132 v133
theorem spec_l5DivSmall_L0.ex : ∃ f : ((α : Type) → Nat → Nat → List Int → Int → Int → Int → List Int → (Int → List Int → Option α) → Option α), f = fun α => @spec_l5DivSmall_L0.b α := ⟨_, rfl⟩
noncomputable def spec_l5DivSmall_L0 {α : Type} : Nat → Nat → List Int → Int → Int → Int → List Int → (Int → List Int → Option α) → Option α := Classical.choose spec_l5DivSmall_L0.ex α
theorem spec_l5DivSmall_L0.eq : @spec_l5DivSmall_L0 = @spec_l5DivSmall_L0.b := funext fun α => congrFun (Classical.choose_spec spec_l5DivSmall_L0.ex) α
theorem spec_l5DivSmall_L0.zero {α : Type} (N : Nat) (v129 : List Int) (v130 : Int) (v131 : Int) (v132 : Int) (v133 : List Int) (k0 : Int → List Int → Option α) : spec_l5DivSmall_L0 N 0 v129 v130 v131 v132 v133 k0 = none := by rw [spec_l5DivSmall_L0.eq]; rfl
theorem spec_l5DivSmall_L0.succ {α : Type} (N n : Nat) (v129 : List Int) (v130 : Int) (v131 : Int) (v132 : Int) (v133 : List Int) (k0 : Int → List Int → Option α) : spec_l5DivSmall_L0 N (n + 1) v129 v130 v131 v132 v133 k0 = spec_l5DivSmall_L0r N (fun y0 y1 y2 y3 y4 => spec_l5DivSmall_L0 N n y0 y1 y2 y3 y4 k0) k0 v129 v130 v131 v132 v133 := by rw [spec_l5DivSmall_L0.eq]; rfl
/-- spec.l5DivSmall -/
noncomputable def spec_l5DivSmall.b {α : Type} (N : Nat) (a123 : List Int) (a124 : Int) (k0 : Int → List Int → Option α) : Option α :=
 let x125 := ((a123.length : Nat) : Int)
 bif (decide ((0 : Int) ≤ x125)) then
  bif decide (x125 ≤ x125) then
   bif (decide (x125 ≤ ((8796093022208 : Nat) : Int))) then
    let x126 := (List.replicate x125.toNat (0 : Int))
    let x127 := ((a123.length : Nat) : Int)
    let x128 := (IntKind.i64.wrap (x127 - (1 : Int)))
    spec_l5DivSmall_L0 N N a123 a124 (0 : Int) x128 x126
     (fun x143 x144 =>
      spec_l5Trim N x144
       (fun x145 =>
        k0 x143 x145))
   else
    none
  else
   none
 else
  none
theorem spec_l5DivSmall.ex : ∃ f : ((α : Type) → Nat → List Int → Int → (Int → List Int → Option α) → Option α), f = fun α => @spec_l5DivSmall.b α := ⟨_, rfl⟩
noncomputable def spec_l5DivSmall {α : Type} : Nat → List Int → Int → (Int → List Int → Option α) → Option α := Classical.choose spec_l5DivSmall.ex α
theorem spec_l5DivSmall.eq : @spec_l5DivSmall = @spec_l5DivSmall.b := funext fun α => congrFun (Classical.choose_spec spec_l5DivSmall.ex) α

noncomputable def spec_NatOf_L0r {α : Type} (N : Nat) (next : Int → List Int → Option α) (k0 : List Int → Option α) (v150 : Int) (v151 : List Int) : Option α :=
 let x152 := (decide ((0 : Int) < v150))
 bif x152 then
  let x153 := (Int.tmod v150 (65536 : Int))
  let x154 := IntKind.i64.wrap x153
  let x155 := [x154]
  bif decide (v151.length + x155.length ≤ 8796093022208) then
   let x156 := v151 ++ x155
   let x157 := (IntKind.u64.wrap (Int.tdiv v150 (65536 : Int)))
   next x157 x156
  else
   none
 else
  k0 v151
noncomputable def spec_NatOf_L0.b {α : Type} (N n : Nat) (v150 : Int) (v151 : List Int) (k0 : List Int → Option α) : Option α :=
  Nat.rec (motive := fun _ => Int → List Int → Option α) (fun _ _ => none) (fun _ next => spec_NatOf_L0r N next k0) n v150 v151
theorem spec_NatOf_L0.ex : ∃ f : ((α : Type) → Nat → Nat → Int → List Int → (List Int → Option α) → Option α), f = fun α => @spec_NatOf_L0.b α := ⟨_, rfl⟩
noncomputable def spec_NatOf_L0 {α : Type} : Nat → Nat → Int → List Int → (List Int → Option α) → Option α := Classical.choose spec_NatOf_L0.ex α
theorem spec_NatOf_L0.eq : @spec_NatOf_L0 = @spec_NatOf_L0.b := funext fun α => congrFun (Classical.choose_spec spec_NatOf_L0.ex) α
theorem spec_NatOf_L0.zero {α : Type} (N : Nat) (v150 : Int) (v151 : List Int) (k0 : List Int → Option α) : spec_NatOf_L0 N 0 v150 v151 k0 = none := by rw [spec_NatOf_L0.eq]; rfl
theorem spec_NatOf_L0.succ {α : Type} (N n : Nat) (v150 : Int) (v151 : List Int) (k0 : List Int → Option α) : spec_NatOf_L0 N (n + 1) v150 v151 k0 = spec_NatOf_L0r N (fun y0 y1 => spec_NatOf_L0 N n y0 y1 k0) k0 v150 v151 := by rw [spec_NatOf_L0.eq]; rfl
/-- spec.NatOf -/
noncomputable def spec_NatOf.b {α : Type} (N : Nat) (a149 : Int) (k0 : List Int → Option α) : Option α :=
 spec_NatOf_L0 N N a149 []
  (fun x158 =>
   k0 x158)
theorem spec_NatOf.ex : ∃ f : ((α : Type) → Nat → Int → (List Int → Option α) → Option α), f = fun α => @spec_NatOf.b α := ⟨_, rfl⟩
noncomputable def spec_NatOf {α : Type} : Nat → Int → (List Int → Option α) → Option α := Classical.choose spec_NatOf.ex α
theorem spec_NatOf.eq : @spec_NatOf = @spec_NatOf.b := funext fun α => congrFun (Classical.choose_spec spec_NatOf.ex) α

noncomputable def spec_l5Mul_L2r {α : Type} (N : Nat) (next : List Int → List Int → Int → Int → Int → List Int → Option α) (k0 : List Int → List Int → Int → Int → List Int → Option α) (v181 : List Int) (v182 : List Int) (v183 : Int) (v184 : Int) (v185 : Int) (v186 : List Int) : Option α :=
 let x187 := ((v182.length : Nat) : Int)
 let x188 := decide (v185 < x187)
 bif x188 then
  let x189 := IntKind.i64.wrap (v183 + v185)
  bif (decide (x189 < (0 : Int))) then
   none
  else
   bif decide (x189.toNat < v186.length) then
    match v186[x189.toNat]? with
    | some x190 =>
     bif (decide (v183 < (0 : Int))) then
      none
     else
      match v181[v183.toNat]? with
      | some x191 =>
       bif (decide (v185 < (0 : Int))) then
        none
       else
        match v182[v185.toNat]? with
        | some x192 =>
         let x193 := IntKind.i64.wrap (x191 * x192)
         let x194 := IntKind.i64.wrap (x190 + x193)
         let x195 := IntKind.i64.wrap (x194 + v184)
         let x196 := IntKind.i64.wrap (v183 + v185)
         let x197 := (Int.tmod x195 (65536 : Int))
         bif (decide (x196 < (0 : Int))) then
          none
         else
          bif decide (x196.toNat < v186.length) then
           match v186[x196.toNat]? with
           | some x198 =>
            let x199 := v186.set x196.toNat x197
            let x200 := (IntKind.i64.wrap (Int.tdiv x195 (65536 : Int)))
            let x201 := (IntKind.i64.wrap (v185 + (1 : Int)))
            next v181 v182 v183 x200 x201 x199
           | none => none
          else
           none
        | none => none
      | none => none
    | none => none
   else
    none
 else
  k0 v181 v182 v183 v184 v186
noncomputable def spec_l5Mul_L2.b {α : Type} (N n : Nat) (v181 : List Int) (v182 : List Int) (v183 : Int) (v184 : Int) (v185 : Int) (v186 : List Int) (k0 : List Int → List Int → Int → Int → List Int → Option α) : Option α :=
  Nat.rec (motive := fun _ => List Int → List Int → Int → Int → Int → List Int → Option α) (fun _ _ _ _ _ _ => none) (fun _ next => spec_l5Mul_L2r N next k0) n v181 v182 v183 v184 v185 v186
theorem spec_l5Mul_L2.ex : ∃ f : ((α : Type) → Nat → Nat → List Int → List Int → Int → Int → Int → List Int → (List Int → List Int → Int → Int → List Int → Option α) → Option α), f = fun α => @spec_l5Mul_L2.b α := ⟨_, rfl⟩
noncomputable def spec_l5Mul_L2 {α : Type} : Nat → Nat → List Int → List Int → Int → Int → Int → List Int → (List Int → List Int → Int → Int → List Int → Option α) → Option α := Classical.choose spec_l5Mul_L2.ex α
theorem spec_l5Mul_L2.eq : @spec_l5Mul_L2 = @spec_l5Mul_L2.b := funext fun α => congrFun (Classical.choose_spec spec_l5Mul_L2.ex) α
theorem spec_l5Mul_L2.zero {α : Type} (N : Nat) (v181 : List Int) (v182 : List Int) (v183 : Int) (v184 : Int) (v185 : Int) (v186 : List Int) (k0 : List Int → List Int → Int → Int → List Int → Option α) : spec_l5Mul_L2 N 0 v181 v182 v183 v184 v185 v186 k0 = none := by rw [spec_l5Mul_L2.eq]; rfl
theorem spec_l5Mul_L2.succ {α : Type} (N n : Nat) (v181 : List Int) (v182 : List Int) (v183 : Int) (v184 : Int) (v185 : Int) (v186 : List Int) (k0 : List Int → List Int → Int → Int → List Int → Option α) : spec_l5Mul_L2 N (n + 1) v181 v182 v183 v184 v185 v186 k0 = spec_l5Mul_L2r N (fun y0 y1 y2 y3 y4 y5 => spec_l5Mul_L2 N n y0 y1 y2 y3 y4 y5 k0) k0 v181 v182 v183 v184 v185 v186 := by rw [spec_l5Mul_L2.eq]; rfl
noncomputable def spec_l5Mul_L0r {α : Type} (N : Nat) (next : List Int → List Int → Int → List Int → Option α) (k0 : List Int → Option α) (v175 : List Int) (v176 : List Int) (v177 : Int) (v178 : List Int) : Option α :=
 let x179 := ((v175.length : Nat) : Int)
 let x180 := decide (v177 < x179)
 bif x180 then
  spec_l5Mul_L2 N N v175 v176 v177 (0 : Int) (0 : Int) v178
   (fun x202 x203 x204 x205 x206 =>
    let x207 := ((x203.length : Nat) : Int)
    let x208 := IntKind.i64.wrap (x204 + x207)
    bif (decide (x208 < (0 : Int))) then
     none
    else
     bif decide (x208.toNat < x206.length) then
      match x206[x208.toNat]? with
      | some x209 =>
       let x210 := x206.set x208.toNat x205
       let x211 := (IntKind.i64.wrap (x204 + (1 : Int)))
       next x202 x203 x211 x210
      | none => none
     else
      none)
 else
  k0 v178
noncomputable def spec_l5Mul_L0.b {α : Type} (N n : Nat) (v175 : List Int) (v176 : List Int) (v177 : Int) (v178 : List Int) (k0 : List Int → Option α) : Option α :=
  Nat.rec (motive := fun _ => List Int → List Int → Int → List Int → Option α) (fun _ _ _ _ => none) (fun _ next => spec_l5Mul_L0r N next k0) n v175 v176 v177 v178
theorem spec_l5Mul_L0.ex : ∃ f : ((α : Type) → Nat → Nat → List Int → List Int → Int → List Int → (List Int → Option α) → Option α), f = fun α => @spec_l5Mul_L0.b α := ⟨_, rfl⟩
noncomputable def spec_l5Mul_L0 {α : Type} : Nat → Nat → List Int → List Int → Int → List Int → (List Int → Option α) → Option α := Classical.choose spec_l5Mul_L0.ex α
theorem spec_l5Mul_L0.eq : @spec_l5Mul_L0 = @spec_l5Mul_L0.b := funext fun α => congrFun (Classical.choose_spec spec_l5Mul_L0.ex) α
theorem spec_l5Mul_L0.zero {α : Type} (N : Nat) (v175 : List Int) (v176 : List Int) (v177 : Int) (v178 : List Int) (k0 : List Int → Option α) : spec_l5Mul_L0 N 0 v175 v176 v177 v178 k0 = none := by rw [spec_l5Mul_L0.eq]; rfl
theorem spec_l5Mul_L0.succ {α : Type} (N n : Nat) (v175 : List Int) (v176 : List Int) (v177 : Int) (v178 : List Int) (k0 : List Int → Option α) : spec_l5Mul_L0 N (n + 1) v175 v176 v177 v178 k0 = spec_l5Mul_L0r N (fun y0 y1 y2 y3 => spec_l5Mul_L0 N n y0 y1 y2 y3 k0) k0 v175 v176 v177 v178 := by rw [spec_l5Mul_L0.eq]; rfl
/-- spec.l5Mul -/
noncomputable def spec_l5Mul.b {α : Type} (N : Nat) (a169 : List Int) (a170 : List Int) (k0 : List Int → Option α) : Option α :=
 let x171 := ((a169.length : Nat) : Int)
 let x172 := ((a170.length : Nat) : Int)
 let x173 := IntKind.i64.wrap (x171 + x172)
 bif (decide ((0 : Int) ≤ x173)) then
  bif decide (x173 ≤ x173) then
   bif (decide (x173 ≤ ((8796093022208 : Nat) : Int))) then
    let x174 := (List.replicate x173.toNat (0 : Int))
    spec_l5Mul_L0 N N a169 a170 (0 : Int) x174
     (fun x212 =>
      spec_l5Trim N x212
       (fun x213 =>
        k0 x213))
   else
    none
  else
   none
 else
  none
theorem spec_l5Mul.ex : ∃ f : ((α : Type) → Nat → List Int → List Int → (List Int → Option α) → Option α), f = fun α => @spec_l5Mul.b α := ⟨_, rfl⟩
noncomputable def spec_l5Mul {α : Type} : Nat → List Int → List Int → (List Int → Option α) → Option α := Classical.choose spec_l5Mul.ex α
theorem spec_l5Mul.eq : @spec_l5Mul = @spec_l5Mul.b := funext fun α => congrFun (Classical.choose_spec spec_l5Mul.ex) α

/-- spec.l5Times -/
noncomputable def spec_l5Times.b {α : Type} (N : Nat) (a165 : List Int) (a166 : Int) (k0 : List Int → Option α) : Option α :=
 let x167 := (decide (a166 = (0 : Int)))
 bif x167 then
  k0 []
 else
  let x168 := [a166]
  spec_l5Mul N a165 x168
   (fun x214 =>
    k0 x214)
theorem spec_l5Times.ex : ∃ f : ((α : Type) → Nat → List Int → Int → (List Int → Option α) → Option α), f = fun α => @spec_l5Times.b α := ⟨_, rfl⟩
noncomputable def spec_l5Times {α : Type} : Nat → List Int → Int → (List Int → Option α) → Option α := Classical.choose spec_l5Times.ex α
theorem spec_l5Times.eq : @spec_l5Times = @spec_l5Times.b := funext fun α => congrFun (Classical.choose_spec spec_l5Times.ex) α

noncomputable def spec_l5Top_L0r {α : Type} (N : Nat) (next : List Int → Int → List Int → Option α) (k0 : List Int → Option α) (v227 : List Int) (v228 : Int) (v229 : List Int) : Option α :=
 let x230 := ((v227.length : Nat) : Int)
 let x231 := decide (v228 < x230)
 bif x231 then
  bif (decide (v228 < (0 : Int))) then
   none
  else
   match v227[v228.toNat]? with
   | some x232 =>
    let x233 := [x232]
    bif decide (v229.length + x233.length ≤ 8796093022208) then
     let x234 := v229 ++ x233
     let x235 := (IntKind.i64.wrap (v228 + (1 : Int)))
     next v227 x235 x234
    else
     none
   | none => none
 else
  k0 v229
noncomputable def spec_l5Top_L0.b {α : Type} (N n : Nat) (v227 : List Int) (v228 : Int) (v229 : List Int) (k0 : List Int → Option α) : Option α :=
  Nat.rec (motive := fun _ => List Int → Int → List Int → Option α) (fun _ _ _ => none) (fun _ next => spec_l5Top_L0r N next k0) n v227 v228 v229
theorem spec_l5Top_L0.ex : ∃ f : ((α : Type) → Nat → Nat → List Int → Int → List Int → (List Int → Option α) → Option α), f = fun α => @spec_l5Top_L0.b α := ⟨_, rfl⟩
noncomputable def spec_l5Top_L0 {α : Type} : Nat → Nat → List Int → Int → List Int → (List Int → Option α) → Option α := Classical.choose spec_l5Top_L0.ex α
theorem spec_l5Top_L0.eq : @spec_l5Top_L0 = @spec_l5Top_L0.b := funext fun α => congrFun (Classical.choose_spec spec_l5Top_L0.ex) α
theorem spec_l5Top_L0.zero {α : Type} (N : Nat) (v227 : List Int) (v228 : Int) (v229 : List Int) (k0 : List Int → Option α) : spec_l5Top_L0 N 0 v227 v228 v229 k0 = none := by rw [spec_l5Top_L0.eq]; rfl
theorem spec_l5Top_L0.succ {α : Type} (N n : Nat) (v227 : List Int) (v228 : Int) (v229 : List Int) (k0 : List Int → Option α) : spec_l5Top_L0 N (n + 1) v227 v228 v229 k0 = spec_l5Top_L0r N (fun y0 y1 y2 => spec_l5Top_L0 N n y0 y1 y2 k0) k0 v227 v228 v229 := by rw [spec_l5Top_L0.eq]; rfl
/-- spec.l5Top -/
noncomputable def spec_l5Top.b {α : Type} (N : Nat) (a225 : List Int) (a226 : Int) (k0 : List Int → Option α) : Option α :=
 spec_l5Top_L0 N N a225 a226 []
  (fun x236 =>
   k0 x236)
theorem spec_l5Top.ex : ∃ f : ((α : Type) → Nat → List Int → Int → (List Int → Option α) → Option α), f = fun α => @spec_l5Top.b α := ⟨_, rfl⟩
noncomputable def spec_l5Top {α : Type} : Nat → List Int → Int → (List Int → Option α) → Option α := Classical.choose spec_l5Top.ex α
theorem spec_l5Top.eq : @spec_l5Top = @spec_l5Top.b := funext fun α => congrFun (Classical.choose_spec spec_l5Top.ex) α

noncomputable def spec_l5Shl_L0r {α : Type} (N : Nat) (next : List Int → Int → List Int → Option α) (k0 : List Int → Option α) (v253 : List Int) (v254 : Int) (v255 : List Int) : Option α :=
 let x256 := ((v253.length : Nat) : Int)
 let x257 := decide (v254 < x256)
 bif x257 then
  bif (decide (v254 < (0 : Int))) then
   none
  else
   match v253[v254.toNat]? with
   | some x258 =>
    let x259 := [x258]
    bif decide (v255.length + x259.length ≤ 8796093022208) then
     let x260 := v255 ++ x259
     let x261 := (IntKind.i64.wrap (v254 + (1 : Int)))
     next v253 x261 x260
    else
     none
   | none => none
 else
  k0 v255
noncomputable def spec_l5Shl_L0.b {α : Type} (N n : Nat) (v253 : List Int) (v254 : Int) (v255 : List Int) (k0 : List Int → Option α) : Option α :=
  Nat.rec (motive := fun _ => List Int → Int → List Int → Option α) (fun _ _ _ => none) (fun _ next => spec_l5Shl_L0r N next k0) n v253 v254 v255
theorem spec_l5Shl_L0.ex : ∃ f : ((α : Type) → Nat → Nat → List Int → Int → List Int → (List Int → Option α) → Option α), f = fun α => @spec_l5Shl_L0.b α := ⟨_, rfl⟩
noncomputable def spec_l5Shl_L0 {α : Type} : Nat → Nat → List Int → Int → List Int → (List Int → Option α) → Option α := Classical.choose spec_l5Shl_L0.ex α
theorem spec_l5Shl_L0.eq : @spec_l5Shl_L0 = @spec_l5Shl_L0.b := funext fun α => congrFun (Classical.choose_spec spec_l5Shl_L0.ex) α
theorem spec_l5Shl_L0.zero {α : Type} (N : Nat) (v253 : List Int) (v254 : Int) (v255 : List Int) (k0 : List Int → Option α) : spec_l5Shl_L0 N 0 v253 v254 v255 k0 = none := by rw [spec_l5Shl_L0.eq]; rfl
theorem spec_l5Shl_L0.succ {α : Type} (N n : Nat) (v253 : List Int) (v254 : Int) (v255 : List Int) (k0 : List Int → Option α) : spec_l5Shl_L0 N (n + 1) v253 v254 v255 k0 = spec_l5Shl_L0r N (fun y0 y1 y2 => spec_l5Shl_L0 N n y0 y1 y2 k0) k0 v253 v254 v255 := by rw [spec_l5Shl_L0.eq]; rfl
/-- spec.l5Shl -/
noncomputable def spec_l5Shl.b {α : Type} (N : Nat) (a248 : List Int) (a249 : Int) (k0 : List Int → Option α) : Option α :=
 let x250 := ((a248.length : Nat) : Int)
 let x251 := (decide (x250 = (0 : Int)))
 bif x251 then
  k0 []
 else
  bif (decide ((0 : Int) ≤ a249)) then
   bif decide (a249 ≤ a249) then
    bif (decide (a249 ≤ ((8796093022208 : Nat) : Int))) then
     let x252 := (List.replicate a249.toNat (0 : Int))
     spec_l5Shl_L0 N N a248 (0 : Int) x252
      (fun x262 =>
       k0 x262)
    else
     none
   else
    none
  else
   none
theorem spec_l5Shl.ex : ∃ f : ((α : Type) → Nat → List Int → Int → (List Int → Option α) → Option α), f = fun α => @spec_l5Shl.b α := ⟨_, rfl⟩
noncomputable def spec_l5Shl {α : Type} : Nat → List Int → Int → (List Int → Option α) → Option α := Classical.choose spec_l5Shl.ex α
theorem spec_l5Shl.eq : @spec_l5Shl = @spec_l5Shl.b := funext fun α => congrFun (Classical.choose_spec spec_l5Shl.ex) α

/-- spec.l5At -/
noncomputable def spec_l5At.b {α : Type} (N : Nat) (a286 : List Int) (a287 : Int) (k0 : Int → Option α) : Option α :=
 let x288 := ((a286.length : Nat) : Int)
 let x289 := decide (a287 < x288)
 bif x289 then
  bif (decide (a287 < (0 : Int))) then
   none
  else
   match a286[a287.toNat]? with
   | some x290 =>
    k0 x290
   | none => none
 else
  k0 (0 : Int)
theorem spec_l5At.ex : ∃ f : ((α : Type) → Nat → List Int → Int → (Int → Option α) → Option α), f = fun α => @spec_l5At.b α := ⟨_, rfl⟩
noncomputable def spec_l5At {α : Type} : Nat → List Int → Int → (Int → Option α) → Option α := Classical.choose spec_l5At.ex α
theorem spec_l5At.eq : @spec_l5At = @spec_l5At.b := funext fun α => congrFun (Classical.choose_spec spec_l5At.ex) α

noncomputable def spec_l5Add_J2.b {α : Type} (N : Nat) (v270 : List Int) (v271 : List Int) (v272 : Int) (k0 : List Int → List Int → Int → Option α) : Option α :=
 let x273 := ((v271.length : Nat) : Int)
 let x274 := decide (v272 < x273)
 bif x274 then
  let x275 := ((v271.length : Nat) : Int)
  k0 v270 v271 x275
 else
  k0 v270 v271 v272
theorem spec_l5Add_J2.ex : ∃ f : ((α : Type) → Nat → List Int → List Int → Int → (List Int → List Int → Int → Option α) → Option α), f = fun α => @spec_l5Add_J2.b α := ⟨_, rfl⟩
noncomputable def spec_l5Add_J2 {α : Type} : Nat → List Int → List Int → Int → (List Int → List Int → Int → Option α) → Option α := Classical.choose spec_l5Add_J2.ex α
theorem spec_l5Add_J2.eq : @spec_l5Add_J2 = @spec_l5Add_J2.b := funext fun α => congrFun (Classical.choose_spec spec_l5Add_J2.ex) α
noncomputable def spec_l5Add_L0r {α : Type} (N : Nat) (next : List Int → List Int → Int → Int → Int → List Int → Option α) (k0 : Int → List Int → Option α) (v279 : List Int) (v280 : List Int) (v281 : Int) (v282 : Int) (v283 : Int) (v284 : List Int) : Option α :=
 let x285 := decide (v283 < v281)
 bif x285 then
  spec_l5At N v279 v283
   (fun x291 =>
    spec_l5At N v280 v283
     (fun x292 =>
      let x293 := IntKind.i64.wrap (x291 + x292)
      let x294 := IntKind.i64.wrap (x293 + v282)
      let x295 := (Int.tmod x294 (65536 : Int))
      let x296 := [x295]
      bif decide (v284.length + x296.length ≤ 8796093022208) then
       let x297 := v284 ++ x296
       let x298 := (IntKind.i64.wrap (Int.tdiv x294 (65536 : Int)))
       let x299 := (IntKind.i64.wrap (v283 + (1 : Int)))
       next v279 v280 v281 x298 x299 x297
      else
       none))
 else
  k0 v282 v284
noncomputable def spec_l5Add_L0.b {α : Type} (N n : Nat) (v279 : List Int) (v280 : List Int) (v281 : Int) (v282 : Int) (v283 : Int) (v284 : List Int) (k0 : Int → List Int → Option α) : Option α :=
  Nat.rec (motive := fun _ => List Int → List Int → Int → Int → Int → List Int → Option α) (fun _ _ _ _ _ _ => none) (fun _ next => spec_l5Add_L0r N next k0) n v279 v280 v281 v282 v283 v284
theorem spec_l5Add_L0.ex : ∃ f : ((α : Type) → Nat → Nat → List Int → List Int → Int → Int → Int → List Int → (Int → List Int → Option α) → Option α), f = fun α => @spec_l5Add_L0.b α := ⟨_, rfl⟩
noncomputable def spec_l5Add_L0 {α : Type} : Nat → Nat → List Int → List Int → Int → Int → Int → List Int → (Int → List Int → Option α) → Option α := Classical.choose spec_l5Add_L0.ex α
theorem spec_l5Add_L0.eq : @spec_l5Add_L0 = @spec_l5Add_L0.b := funext fun α => congrFun (Classical.choose_spec spec_l5Add_L0.ex) α
theorem spec_l5Add_L0.zero {α : Type} (N : Nat) (v279 : List Int) (v280 : List Int) (v281 : Int) (v282 : Int) (v283 : Int) (v284 : List Int) (k0 : Int → List Int → Option α) : spec_l5Add_L0 N 0 v279 v280 v281 v282 v283 v284 k0 = none := by rw [spec_l5Add_L0.eq]; rfl
theorem spec_l5Add_L0.succ {α : Type} (N n : Nat) (v279 : List Int) (v280 : List Int) (v281 : Int) (v282 : Int) (v283 : Int) (v284 : List Int) (k0 : Int → List Int → Option α) : spec_l5Add_L0 N (n + 1) v279 v280 v281 v282 v283 v284 k0 = spec_l5Add_L0r N (fun y0 y1 y2 y3 y4 y5 => spec_l5Add_L0 N n y0 y1 y2 y3 y4 y5 k0) k0 v279 v280 v281 v282 v283 v284 := by rw [spec_l5Add_L0.eq]; rfl
noncomputable def spec_l5Add_J12.b {α : Type} (N : Nat) (v302 : Int) (v303 : List Int) (k0 : List Int → Option α) : Option α :=
 let x304 := (decide ((0 : Int) < v302))
 bif x304 then
  let x305 := [v302]
  bif decide (v303.length + x305.length ≤ 8796093022208) then
   let x306 := v303 ++ x305
   k0 x306
  else
   none
 else
  k0 v303
theorem spec_l5Add_J12.ex : ∃ f : ((α : Type) → Nat → Int → List Int → (List Int → Option α) → Option α), f = fun α => @spec_l5Add_J12.b α := ⟨_, rfl⟩
noncomputable def spec_l5Add_J12 {α : Type} : Nat → Int → List Int → (List Int → Option α) → Option α := Classical.choose spec_l5Add_J12.ex α
theorem spec_l5Add_J12.eq : @spec_l5Add_J12 = @spec_l5Add_J12.b := funext fun α => congrFun (Classical.choose_spec spec_l5Add_J12.ex) α
/-- spec.l5Add -/
noncomputable def spec_l5Add.b {α : Type} (N : Nat) (a267 : List Int) (a268 : List Int) (k0 : List Int → Option α) : Option α :=
 let x269 := ((a267.length : Nat) : Int)
 spec_l5Add_J2 N a267 a268 x269
  (fun x276 x277 x278 =>
   spec_l5Add_L0 N N x276 x277 x278 (0 : Int) (0 : Int) []
    (fun x300 x301 =>
     spec_l5Add_J12 N x300 x301
      (fun x307 =>
       k0 x307)))
theorem spec_l5Add.ex : ∃ f : ((α : Type) → Nat → List Int → List Int → (List Int → Option α) → Option α), f = fun α => @spec_l5Add.b α := ⟨_, rfl⟩
noncomputable def spec_l5Add {α : Type} : Nat → List Int → List Int → (List Int → Option α) → Option α := Classical.choose spec_l5Add.ex α
theorem spec_l5Add.eq : @spec_l5Add = @spec_l5Add.b := funext fun α => congrFun (Classical.choose_spec spec_l5Add.ex) α

noncomputable def spec_l5Sub_J8.b {α : Type} (N : Nat) (v360 : List Int) (v361 : List Int) (v362 : Int) (v363 : Int) (v364 : Int) (v365 : List Int) (k0 : List Int → List Int → Int → Int → Int → List Int → Option α) : Option α :=
 let x366 := (decide (v364 < (0 : Int)))
 bif x366 then
  let x367 := (IntKind.i64.wrap (v364 + (65536 : Int)))
  k0 v360 v361 (1 : Int) v363 x367 v365
 else
  k0 v360 v361 v362 v363 v364 v365
theorem spec_l5Sub_J8.ex : ∃ f : ((α : Type) → Nat → List Int → List Int → Int → Int → Int → List Int → (List Int → List Int → Int → Int → Int → List Int → Option α) → Option α), f = fun α => @spec_l5Sub_J8.b α := ⟨_, rfl⟩
noncomputable def spec_l5Sub_J8 {α : Type} : Nat → List Int → List Int → Int → Int → Int → List Int → (List Int → List Int → Int → Int → Int → List Int → Option α) → Option α := Classical.choose spec_l5Sub_J8.ex α
theorem spec_l5Sub_J8.eq : @spec_l5Sub_J8 = @spec_l5Sub_J8.b := funext fun α => congrFun (Classical.choose_spec spec_l5Sub_J8.ex) α
noncomputable def spec_l5Sub_L0r {α : Type} (N : Nat) (next : List Int → List Int → Int → Int → List Int → Option α) (k0 : List Int → Option α) (v349 : List Int) (v350 : List Int) (v351 : Int) (v352 : Int) (v353 : List Int) : Option α :=
 let x354 := ((v349.length : Nat) : Int)
 let x355 := decide (v352 < x354)
 bif x355 then
  bif (decide (v352 < (0 : Int))) then
   none
  else
   match v349[v352.toNat]? with
   | some x356 =>
    spec_l5At N v350 v352
     (fun x357 =>
      let x358 := IntKind.i64.wrap (x356 - x357)
      let x359 := IntKind.i64.wrap (x358 - v351)
      spec_l5Sub_J8 N v349 v350 (0 : Int) v352 x359 v353
       (fun x368 x369 x370 x371 x372 x373 =>
        let x374 := [x372]
        bif decide (x373.length + x374.length ≤ 8796093022208) then
         let x375 := x373 ++ x374
         let x376 := (IntKind.i64.wrap (x371 + (1 : Int)))
         next x368 x369 x370 x376 x375
        else
         none))
   | none => none
 else
  k0 v353
noncomputable def spec_l5Sub_L0.b {α : Type} (N n : Nat) (v349 : List Int) (v350 : List Int) (v351 : Int) (v352 : Int) (v353 : List Int) (k0 : List Int → Option α) : Option α :=
  Nat.rec (motive := fun _ => List Int → List Int → Int → Int → List Int → Option α) (fun _ _ _ _ _ => none) (fun _ next => spec_l5Sub_L0r N next k0) n v349 v350 v351 v352 v353
theorem spec_l5Sub_L0.ex : ∃ f : ((α : Type) → Nat → Nat → List Int → List Int → Int → Int → List Int → (List Int → Option α) → Option α), f = fun α => @spec_l5Sub_L0.b α := ⟨_, rfl⟩
noncomputable def spec_l5Sub_L0 {α : Type} : Nat → Nat → List Int → List Int → Int → Int → List Int → (List Int → Option α) → Option α := Classical.choose spec_l5Sub_L0.ex α
theorem spec_l5Sub_L0.eq : @spec_l5Sub_L0 = @spec_l5Sub_L0.b := funext fun α => congrFun (Classical.choose_spec spec_l5Sub_L0.ex) α
theorem spec_l5Sub_L0.zero {α : Type} (N : Nat) (v349 : List Int) (v350 : List Int) (v351 : Int) (v352 : Int) (v353 : List Int) (k0 : List Int → Option α) : spec_l5Sub_L0 N 0 v349 v350 v351 v352 v353 k0 = none := by rw [spec_l5Sub_L0.eq]; rfl
theorem spec_l5Sub_L0.succ {α : Type} (N n : Nat) (v349 : List Int) (v350 : List Int) (v351 : Int) (v352 : Int) (v353 : List Int) (k0 : List Int → Option α) : spec_l5Sub_L0 N (n + 1) v349 v350 v351 v352 v353 k0 = spec_l5Sub_L0r N (fun y0 y1 y2 y3 y4 => spec_l5Sub_L0 N n y0 y1 y2 y3 y4 k0) k0 v349 v350 v351 v352 v353 := by rw [spec_l5Sub_L0.eq]; rfl
/-- spec.l5Sub -/
noncomputable def spec_l5Sub.b {α : Type} (N : Nat) (a347 : List Int) (a348 : List Int) (k0 : List Int → Option α) : Option α :=
 spec_l5Sub_L0 N N a347 a348 (0 : Int) (0 : Int) []
  (fun x377 =>
   spec_l5Trim N x377
    (fun x378 =>
     k0 x378))
theorem spec_l5Sub.ex : ∃ f : ((α : Type) → Nat → List Int → List Int → (List Int → Option α) → Option α), f = fun α => @spec_l5Sub.b α := ⟨_, rfl⟩
noncomputable def spec_l5Sub {α : Type} : Nat → List Int → List Int → (List Int → Option α) → Option α := Classical.choose spec_l5Sub.ex α
theorem spec_l5Sub.eq : @spec_l5Sub = @spec_l5Sub.b := funext fun α => congrFun (Classical.choose_spec spec_l5Sub.ex) α

noncomputable def spec_l5Div_J17.b {α : Type} (N : Nat) (v318 : Int) (v319 : Int) (v320 : Int) (v321 : Int) (v322 : List Int) (v323 : List Int) (v324 : List Int) (v325 : List Int) (k0 : Int → Int → Int → Int → List Int → List Int → List Int → List Int → Option α) : Option α :=
 let x326 := (decide ((65536 : Int) ≤ v321))
 bif x326 then
  k0 v318 v319 v320 (65535 : Int) v322 v323 v324 v325
 else
  k0 v318 v319 v320 v321 v322 v323 v324 v325
theorem spec_l5Div_J17.ex : ∃ f : ((α : Type) → Nat → Int → Int → Int → Int → List Int → List Int → List Int → List Int → (Int → Int → Int → Int → List Int → List Int → List Int → List Int → Option α) → Option α), f = fun α => @spec_l5Div_J17.b α := ⟨_, rfl⟩
noncomputable def spec_l5Div_J17 {α : Type} : Nat → Int → Int → Int → Int → List Int → List Int → List Int → List Int → (Int → Int → Int → Int → List Int → List Int → List Int → List Int → Option α) → Option α := Classical.choose spec_l5Div_J17.ex α
theorem spec_l5Div_J17.eq : @spec_l5Div_J17 = @spec_l5Div_J17.b := funext fun α => congrFun (Classical.choose_spec spec_l5Div_J17.ex) α
noncomputable def spec_l5Div_L2r {α : Type} (N : Nat) (next : Int → Int → Int → Int → List Int → List Int → List Int → List Int → List Int → Option α) (k0 : Int → Int → Int → Int → List Int → List Int → List Int → List Int → List Int → Option α) (v336 : Int) (v337 : Int) (v338 : Int) (v339 : Int) (v340 : List Int) (v341 : List Int) (v342 : List Int) (v343 : List Int) (v344 : List Int) : Option α :=
 spec_l5Cmp N v344 v343
  (fun x345 =>
   let x346 := (decide ((0 : Int) < x345))
   bif x346 then
    spec_l5Sub N v344 v341
     (fun x379 =>
      let x380 := (IntKind.i64.wrap (v339 - (1 : Int)))
      next v336 v337 v338 x380 v340 v341 v342 v343 x379)
   else
    k0 v336 v337 v338 v339 v340 v341 v342 v343 v344)
noncomputable def spec_l5Div_L2.b {α : Type} (N n : Nat) (v336 : Int) (v337 : Int) (v338 : Int) (v339 : Int) (v340 : List Int) (v341 : List Int) (v342 : List Int) (v343 : List Int) (v344 : List Int) (k0 : Int → Int → Int → Int → List Int → List Int → List Int → List Int → List Int → Option α) : Option α :=
  Nat.rec (motive := fun _ => Int → Int → Int → Int → List Int → List Int → List Int → List Int → List Int → Option α) (fun _ _ _ _ _ _ _ _ _ => none) (fun _ next => spec_l5Div_L2r N next k0) n v336 v337 v338 v339 v340 v341 v342 v343 v344
theorem spec_l5Div_L2.ex : ∃ f : ((α : Type) → Nat → Nat → Int → Int → Int → Int → List Int → List Int → List Int → List Int → List Int → (Int → Int → Int → Int → List Int → List Int → List Int → List Int → List Int → Option α) → Option α), f = fun α => @spec_l5Div_L2.b α := ⟨_, rfl⟩
noncomputable def spec_l5Div_L2 {α : Type} : Nat → Nat → Int → Int → Int → Int → List Int → List Int → List Int → List Int → List Int → (Int → Int → Int → Int → List Int → List Int → List Int → List Int → List Int → Option α) → Option α := Classical.choose spec_l5Div_L2.ex α
theorem spec_l5Div_L2.eq : @spec_l5Div_L2 = @spec_l5Div_L2.b := funext fun α => congrFun (Classical.choose_spec spec_l5Div_L2.ex) α
theorem spec_l5Div_L2.zero {α : Type} (N : Nat) (v336 : Int) (v337 : Int) (v338 : Int) (v339 : Int) (v340 : List Int) (v341 : List Int) (v342 : List Int) (v343 : List Int) (v344 : List Int) (k0 : Int → Int → Int → Int → List Int → List Int → List Int → List Int → List Int → Option α) : spec_l5Div_L2 N 0 v336 v337 v338 v339 v340 v341 v342 v343 v344 k0 = none := by rw [spec_l5Div_L2.eq]; rfl
theorem spec_l5Div_L2.succ {α : Type} (N n : Nat) (v336 : Int) (v337 : Int) (v338 : Int) (v339 : Int) (v340 : List Int) (v341 : List Int) (v342 : List Int) (v343 : List Int) (v344 : List Int) (k0 : Int → Int → Int → Int → List Int → List Int → List Int → List Int → List Int → Option α) : spec_l5Div_L2 N (n + 1) v336 v337 v338 v339 v340 v341 v342 v343 v344 k0 = spec_l5Div_L2r N (fun y0 y1 y2 y3 y4 y5 y6 y7 y8 => spec_l5Div_L2 N n y0 y1 y2 y3 y4 y5 y6 y7 y8 k0) k0 v336 v337 v338 v339 v340 v341 v342 v343 v344 := by rw [spec_l5Div_L2.eq]; rfl
noncomputable def spec_l5Div_L0r {α : Type} (N : Nat) (next : Int → Int → Int → List Int → List Int → List Int → List Int → Option α) (k0 : Int → List Int → List Int → Option α) (v240 : Int) (v241 : Int) (v242 : Int) (v243 : List Int) (v244 : List Int) (v245 : List Int) (v246 : List Int) : Option α :=
 let x247 := (decide ((0 : Int) ≤ v242))
 bif x247 then
  spec_l5Shl N v246 (1 : Int)
   (fun x263 =>
    bif (decide (v242 < (0 : Int))) then
     none
    else
     bif decide (v242.toNat < v243.length) then
      match v243[v242.toNat]? with
      | some x264 =>
       let x265 := IntKind.u64.wrap x264
       spec_NatOf N x265
        (fun x266 =>
         spec_l5Add N x263 x266
          (fun x308 =>
           spec_l5Trim N x308
            (fun x309 =>
             spec_l5At N x309 v241
              (fun x310 =>
               let x311 := (IntKind.i64.wrap (x310 * (65536 : Int)))
               let x312 := (IntKind.i64.wrap (v241 - (1 : Int)))
               spec_l5At N x309 x312
                (fun x313 =>
                 let x314 := IntKind.i64.wrap (x311 + x313)
                 let x315 := (IntKind.i64.wrap (v241 - (1 : Int)))
                 bif (decide (x315 < (0 : Int))) then
                  none
                 else
                  bif decide (x315.toNat < v244.length) then
                   match v244[x315.toNat]? with
                   | some x316 =>
                    bif (decide (x316 = (0 : Int))) then
                     none
                    else
                     let x317 := IntKind.i64.wrap (Int.tdiv x314 x316)
                     spec_l5Div_J17 N v240 v241 v242 x317 v243 v244 v245 x309
                      (fun x327 x328 x329 x330 x331 x332 x333 x334 =>
                       spec_l5Times N x332 x330
                        (fun x335 =>
                         spec_l5Div_L2 N N x327 x328 x329 x330 x331 x332 x333 x334 x335
                          (fun x381 x382 x383 x384 x385 x386 x387 x388 x389 =>
                           bif (decide (x383 < (0 : Int))) then
                            none
                           else
                            bif decide (x383.toNat < x387.length) then
                             match x387[x383.toNat]? with
                             | some x390 =>
                              let x391 := x387.set x383.toNat x384
                              spec_l5Sub N x388 x389
                               (fun x392 =>
                                let x393 := (IntKind.i64.wrap (x383 - (1 : Int)))
                                next x381 x382 x393 x385 x386 x391 x392)
                             | none => none
                            else
                             none)))
                   | none => none
                  else
                   none)))))
      | none => none
     else
      none)
 else
  k0 v240 v245 v246
noncomputable def spec_l5Div_L0.b {α : Type} (N n : Nat) (v240 : Int) (v241 : Int) (v242 : Int) (v243 : List Int) (v244 : List Int) (v245 : List Int) (v246 : List Int) (k0 : Int → List Int → List Int → Option α) : Option α :=
  Nat.rec (motive := fun _ => Int → Int → Int → List Int → List Int → List Int → List Int → Option α) (fun _ _ _ _ _ _ _ => none) (fun _ next => spec_l5Div_L0r N next k0) n v240 v241 v242 v243 v244 v245 v246
theorem spec_l5Div_L0.ex : ∃ f : ((α : Type) → Nat → Nat → Int → Int → Int → List Int → List Int → List Int → List Int → (Int → List Int → List Int → Option α) → Option α), f = fun α => @spec_l5Div_L0.b α := ⟨_, rfl⟩
noncomputable def spec_l5Div_L0 {α : Type} : Nat → Nat → Int → Int → Int → List Int → List Int → List Int → List Int → (Int → List Int → List Int → Option α) → Option α := Classical.choose spec_l5Div_L0.ex α
theorem spec_l5Div_L0.eq : @spec_l5Div_L0 = @spec_l5Div_L0.b := funext fun α => congrFun (Classical.choose_spec spec_l5Div_L0.ex) α
theorem spec_l5Div_L0.zero {α : Type} (N : Nat) (v240 : Int) (v241 : Int) (v242 : Int) (v243 : List Int) (v244 : List Int) (v245 : List Int) (v246 : List Int) (k0 : Int → List Int → List Int → Option α) : spec_l5Div_L0 N 0 v240 v241 v242 v243 v244 v245 v246 k0 = none := by rw [spec_l5Div_L0.eq]; rfl
theorem spec_l5Div_L0.succ {α : Type} (N n : Nat) (v240 : Int) (v241 : Int) (v242 : Int) (v243 : List Int) (v244 : List Int) (v245 : List Int) (v246 : List Int) (k0 : Int → List Int → List Int → Option α) : spec_l5Div_L0 N (n + 1) v240 v241 v242 v243 v244 v245 v246 k0 = spec_l5Div_L0r N (fun y0 y1 y2 y3 y4 y5 y6 => spec_l5Div_L0 N n y0 y1 y2 y3 y4 y5 y6 k0) k0 v240 v241 v242 v243 v244 v245 v246 := by rw [spec_l5Div_L0.eq]; rfl
/-- spec.l5Div -/
noncomputable def spec_l5Div.b {α : Type} (N : Nat) (a93 : List Int) (a94 : List Int) (k0 : List Int → List Int → Option α) : Option α :=
 spec_l5Cmp N a93 a94
  (fun x117 =>
   let x118 := (decide (x117 < (0 : Int)))
   bif x118 then
    spec_l5Trim N a93
     (fun x119 =>
      k0 [] x119)
   else
    let x120 := ((a94.length : Nat) : Int)
    let x121 := (decide (x120 = (1 : Int)))
    bif x121 then
     match a94[0]? with
     | some x122 =>
      spec_l5DivSmall N a93 x122
       (fun x146 x147 =>
        let x148 := IntKind.u64.wrap x146
        spec_NatOf N x148
         (fun x159 =>
          k0 x147 x159))
     | none => none
    else
     let x160 := ((a94.length : Nat) : Int)
     let x161 := (IntKind.i64.wrap (x160 - (1 : Int)))
     bif (decide (x161 < (0 : Int))) then
      none
     else
      match a94[x161.toNat]? with
      | some x162 =>
       let x163 := (IntKind.i64.wrap (x162 + (1 : Int)))
       bif (decide (x163 = (0 : Int))) then
        none
       else
        let x164 := (IntKind.i64.wrap (Int.tdiv (65536 : Int) x163))
        spec_l5Times N a93 x164
         (fun x215 =>
          spec_l5Times N a94 x164
           (fun x216 =>
            let x217 := ((x216.length : Nat) : Int)
            let x218 := ((x215.length : Nat) : Int)
            let x219 := IntKind.i64.wrap (x218 - x217)
            let x220 := (IntKind.i64.wrap (x219 + (1 : Int)))
            bif (decide ((0 : Int) ≤ x220)) then
             bif decide (x220 ≤ x220) then
              bif (decide (x220 ≤ ((8796093022208 : Nat) : Int))) then
               let x221 := (List.replicate x220.toNat (0 : Int))
               let x222 := ((x215.length : Nat) : Int)
               let x223 := IntKind.i64.wrap (x222 - x217)
               let x224 := (IntKind.i64.wrap (x223 + (1 : Int)))
               spec_l5Top N x215 x224
                (fun x237 =>
                 let x238 := ((x215.length : Nat) : Int)
                 let x239 := IntKind.i64.wrap (x238 - x217)
                 spec_l5Div_L0 N N x164 x217 x239 x215 x216 x221 x237
                  (fun x394 x395 x396 =>
                   spec_l5DivSmall N x396 x394
                    (fun _ x398 =>
                     spec_l5Trim N x395
                      (fun x399 =>
                       k0 x399 x398))))
              else
               none
             else
              none
            else
             none))
      | none => none)
theorem spec_l5Div.ex : ∃ f : ((α : Type) → Nat → List Int → List Int → (List Int → List Int → Option α) → Option α), f = fun α => @spec_l5Div.b α := ⟨_, rfl⟩
noncomputable def spec_l5Div {α : Type} : Nat → List Int → List Int → (List Int → List Int → Option α) → Option α := Classical.choose spec_l5Div.ex α
theorem spec_l5Div.eq : @spec_l5Div = @spec_l5Div.b := funext fun α => congrFun (Classical.choose_spec spec_l5Div.ex) α

noncomputable def spec_l5Gcd_L0r {α : Type} (N : Nat) (next : List Int → List Int → Option α) (k0 : List Int → Option α) (v89 : List Int) (v90 : List Int) : Option α :=
 let x91 := ((v90.length : Nat) : Int)
 let x92 := (decide ((0 : Int) < x91))
 bif x92 then
  spec_l5Div N v89 v90
   (fun _ x401 =>
    next v90 x401)
 else
  k0 v89
noncomputable def spec_l5Gcd_L0.b {α : Type} (N n : Nat) (v89 : List Int) (v90 : List Int) (k0 : List Int → Option α) : Option α :=
  Nat.rec (motive := fun _ => List Int → List Int → Option α) (fun _ _ => none) (fun _ next => spec_l5Gcd_L0r N next k0) n v89 v90
theorem spec_l5Gcd_L0.ex : ∃ f : ((α : Type) → Nat → Nat → List Int → List Int → (List Int → Option α) → Option α), f = fun α => @spec_l5Gcd_L0.b α := ⟨_, rfl⟩
noncomputable def spec_l5Gcd_L0 {α : Type} : Nat → Nat → List Int → List Int → (List Int → Option α) → Option α := Classical.choose spec_l5Gcd_L0.ex α
theorem spec_l5Gcd_L0.eq : @spec_l5Gcd_L0 = @spec_l5Gcd_L0.b := funext fun α => congrFun (Classical.choose_spec spec_l5Gcd_L0.ex) α
theorem spec_l5Gcd_L0.zero {α : Type} (N : Nat) (v89 : List Int) (v90 : List Int) (k0 : List Int → Option α) : spec_l5Gcd_L0 N 0 v89 v90 k0 = none := by rw [spec_l5Gcd_L0.eq]; rfl
theorem spec_l5Gcd_L0.succ {α : Type} (N n : Nat) (v89 : List Int) (v90 : List Int) (k0 : List Int → Option α) : spec_l5Gcd_L0 N (n + 1) v89 v90 k0 = spec_l5Gcd_L0r N (fun y0 y1 => spec_l5Gcd_L0 N n y0 y1 k0) k0 v89 v90 := by rw [spec_l5Gcd_L0.eq]; rfl
/-- spec.l5Gcd -/
noncomputable def spec_l5Gcd.b {α : Type} (N : Nat) (a64 : List Int) (a65 : List Int) (k0 : List Int → Option α) : Option α :=
 spec_l5Trim N a64
  (fun x87 =>
   spec_l5Trim N a65
    (fun x88 =>
     spec_l5Gcd_L0 N N x87 x88
      (fun x402 =>
       k0 x402)))
theorem spec_l5Gcd.ex : ∃ f : ((α : Type) → Nat → List Int → List Int → (List Int → Option α) → Option α), f = fun α => @spec_l5Gcd.b α := ⟨_, rfl⟩
noncomputable def spec_l5Gcd {α : Type} : Nat → List Int → List Int → (List Int → Option α) → Option α := Classical.choose spec_l5Gcd.ex α
theorem spec_l5Gcd.eq : @spec_l5Gcd = @spec_l5Gcd.b := funext fun α => congrFun (Classical.choose_spec spec_l5Gcd.ex) α

/-- spec.l6One -/
noncomputable def spec_l6One.b {α : Type} (N : Nat) (a404 : List Int) (k0 : Bool → Option α) : Option α :=
 let x405 := ((a404.length : Nat) : Int)
 let x406 := (decide (x405 = (1 : Int)))
 bif x406 then
  match a404[0]? with
  | some x407 =>
   let x408 := (decide (x407 = (1 : Int)))
   k0 x408
  | none => none
 else
  k0 false
theorem spec_l6One.ex : ∃ f : ((α : Type) → Nat → List Int → (Bool → Option α) → Option α), f = fun α => @spec_l6One.b α := ⟨_, rfl⟩
noncomputable def spec_l6One {α : Type} : Nat → List Int → (Bool → Option α) → Option α := Classical.choose spec_l6One.ex α
theorem spec_l6One.eq : @spec_l6One = @spec_l6One.b := funext fun α => congrFun (Classical.choose_spec spec_l6One.ex) α

/-- spec.FracOk -/
noncomputable def spec_FracOk.b {α : Type} (N : Nat) (a35 : Bool × (List Int) × (List Int) × Unit) (k0 : Bool → Option α) : Option α :=
 spec_NatOk N a35.2.1
  (fun x56 =>
   let x57 := !x56
   bif x57 then
    k0 false
   else
    spec_NatOk N a35.2.2.1
     (fun x58 =>
      let x59 := !x58
      bif x59 then
       k0 false
      else
       let x60 := ((a35.2.2.1.length : Nat) : Int)
       let x61 := (decide (x60 = (0 : Int)))
       bif x61 then
        k0 false
       else
        let x62 := ((a35.2.1.length : Nat) : Int)
        let x63 := (decide (x62 = (0 : Int)))
        bif x63 then
         bif a35.1 then
          k0 false
         else
          spec_l5Gcd N a35.2.1 a35.2.2.1
           (fun x403 =>
            spec_l6One N x403
             (fun x409 =>
              k0 x409))
        else
         spec_l5Gcd N a35.2.1 a35.2.2.1
          (fun x410 =>
           spec_l6One N x410
            (fun x411 =>
             k0 x411))))
theorem spec_FracOk.ex : ∃ f : ((α : Type) → Nat → (Bool × (List Int) × (List Int) × Unit) → (Bool → Option α) → Option α), f = fun α => @spec_FracOk.b α := ⟨_, rfl⟩
noncomputable def spec_FracOk {α : Type} : Nat → (Bool × (List Int) × (List Int) × Unit) → (Bool → Option α) → Option α := Classical.choose spec_FracOk.ex α
theorem spec_FracOk.eq : @spec_FracOk = @spec_FracOk.b := funext fun α => congrFun (Classical.choose_spec spec_FracOk.ex) α

noncomputable def spec_NatText_L0r {α : Type} (N : Nat) (next : List Int → List Int → Option α) (k0 : List Int → Option α) (v434 : List Int) (v435 : List Int) : Option α :=
 let x436 := ((v434.length : Nat) : Int)
 let x437 := (decide ((0 : Int) < x436))
 bif x437 then
  spec_l5DivSmall N v434 (10 : Int)
   (fun x438 x439 =>
    let x440 := (IntKind.i64.wrap ((48 : Int) + x438))
    let x441 := IntKind.u8.wrap x440
    let x442 := [x441]
    bif decide (v435.length + x442.length ≤ 8796093022208) then
     let x443 := v435 ++ x442
     next x439 x443
    else
     none)
 else
  k0 v435
noncomputable def spec_NatText_L0.b {α : Type} (N n : Nat) (v434 : List Int) (v435 : List Int) (k0 : List Int → Option α) : Option α :=
  Nat.rec (motive := fun _ => List Int → List Int → Option α) (fun _ _ => none) (fun _ next => spec_NatText_L0r N next k0) n v434 v435
theorem spec_NatText_L0.ex : ∃ f : ((α : Type) → Nat → Nat → List Int → List Int → (List Int → Option α) → Option α), f = fun α => @spec_NatText_L0.b α := ⟨_, rfl⟩
noncomputable def spec_NatText_L0 {α : Type} : Nat → Nat → List Int → List Int → (List Int → Option α) → Option α := Classical.choose spec_NatText_L0.ex α
theorem spec_NatText_L0.eq : @spec_NatText_L0 = @spec_NatText_L0.b := funext fun α => congrFun (Classical.choose_spec spec_NatText_L0.ex) α
theorem spec_NatText_L0.zero {α : Type} (N : Nat) (v434 : List Int) (v435 : List Int) (k0 : List Int → Option α) : spec_NatText_L0 N 0 v434 v435 k0 = none := by rw [spec_NatText_L0.eq]; rfl
theorem spec_NatText_L0.succ {α : Type} (N n : Nat) (v434 : List Int) (v435 : List Int) (k0 : List Int → Option α) : spec_NatText_L0 N (n + 1) v434 v435 k0 = spec_NatText_L0r N (fun y0 y1 => spec_NatText_L0 N n y0 y1 k0) k0 v434 v435 := by rw [spec_NatText_L0.eq]; rfl
noncomputable def spec_NatText_L2r {α : Type} (N : Nat) (next : Int → List Int → List Int → Option α) (k0 : List Int → Option α) (v447 : Int) (v448 : List Int) (v449 : List Int) : Option α :=
 let x450 := (decide ((0 : Int) ≤ v447))
 bif x450 then
  bif (decide (v447 < (0 : Int))) then
   none
  else
   bif decide (v447.toNat < v448.length) then
    match v448[v447.toNat]? with
    | some x451 =>
     let x452 := [x451]
     bif decide (v449.length + x452.length ≤ 8796093022208) then
      let x453 := v449 ++ x452
      let x454 := (IntKind.i64.wrap (v447 - (1 : Int)))
      next x454 v448 x453
     else
      none
    | none => none
   else
    none
 else
  k0 v449
noncomputable def spec_NatText_L2.b {α : Type} (N n : Nat) (v447 : Int) (v448 : List Int) (v449 : List Int) (k0 : List Int → Option α) : Option α :=
  Nat.rec (motive := fun _ => Int → List Int → List Int → Option α) (fun _ _ _ => none) (fun _ next => spec_NatText_L2r N next k0) n v447 v448 v449
theorem spec_NatText_L2.ex : ∃ f : ((α : Type) → Nat → Nat → Int → List Int → List Int → (List Int → Option α) → Option α), f = fun α => @spec_NatText_L2.b α := ⟨_, rfl⟩
noncomputable def spec_NatText_L2 {α : Type} : Nat → Nat → Int → List Int → List Int → (List Int → Option α) → Option α := Classical.choose spec_NatText_L2.ex α
theorem spec_NatText_L2.eq : @spec_NatText_L2 = @spec_NatText_L2.b := funext fun α => congrFun (Classical.choose_spec spec_NatText_L2.ex) α
theorem spec_NatText_L2.zero {α : Type} (N : Nat) (v447 : Int) (v448 : List Int) (v449 : List Int) (k0 : List Int → Option α) : spec_NatText_L2 N 0 v447 v448 v449 k0 = none := by rw [spec_NatText_L2.eq]; rfl
theorem spec_NatText_L2.succ {α : Type} (N n : Nat) (v447 : Int) (v448 : List Int) (v449 : List Int) (k0 : List Int → Option α) : spec_NatText_L2 N (n + 1) v447 v448 v449 k0 = spec_NatText_L2r N (fun y0 y1 y2 => spec_NatText_L2 N n y0 y1 y2 k0) k0 v447 v448 v449 := by rw [spec_NatText_L2.eq]; rfl
/-- spec.NatText -/
noncomputable def spec_NatText.b {α : Type} (N : Nat) (a429 : List Int) (k0 : ByteArray → Option α) : Option α :=
 spec_NatOk N a429
  (fun x430 =>
   let x431 := !x430
   bif x431 then
    k0 ByteArray.empty
   else
    let x432 := ((a429.length : Nat) : Int)
    let x433 := (decide (x432 = (0 : Int)))
    bif x433 then
     k0 (⟨#[48]⟩ : ByteArray)
    else
     spec_NatText_L0 N N a429 []
      (fun x444 =>
       let x445 := ((x444.length : Nat) : Int)
       let x446 := (IntKind.i64.wrap (x445 - (1 : Int)))
       spec_NatText_L2 N N x446 x444 []
        (fun x455 =>
         let x456 := bytesOf x455
         k0 x456)))
theorem spec_NatText.ex : ∃ f : ((α : Type) → Nat → List Int → (ByteArray → Option α) → Option α), f = fun α => @spec_NatText.b α := ⟨_, rfl⟩
noncomputable def spec_NatText {α : Type} : Nat → List Int → (ByteArray → Option α) → Option α := Classical.choose spec_NatText.ex α
theorem spec_NatText.eq : @spec_NatText = @spec_NatText.b := funext fun α => congrFun (Classical.choose_spec spec_NatText.ex) α

noncomputable def spec_FracText_J4.b {α : Type} (N : Nat) (v458 : ByteArray) (v459 : Bool × (List Int) × (List Int) × Unit) (k0 : ByteArray → (Bool × (List Int) × (List Int) × Unit) → Option α) : Option α :=
 bif v459.1 then
  bif (decide ((⟨#[45]⟩ : ByteArray).size + v458.size ≤ 9223372036854775807)) then
   let x460 := ((⟨#[45]⟩ : ByteArray) ++ v458)
   k0 x460 v459
  else
   none
 else
  k0 v458 v459
theorem spec_FracText_J4.ex : ∃ f : ((α : Type) → Nat → ByteArray → (Bool × (List Int) × (List Int) × Unit) → (ByteArray → (Bool × (List Int) × (List Int) × Unit) → Option α) → Option α), f = fun α => @spec_FracText_J4.b α := ⟨_, rfl⟩
noncomputable def spec_FracText_J4 {α : Type} : Nat → ByteArray → (Bool × (List Int) × (List Int) × Unit) → (ByteArray → (Bool × (List Int) × (List Int) × Unit) → Option α) → Option α := Classical.choose spec_FracText_J4.ex α
theorem spec_FracText_J4.eq : @spec_FracText_J4 = @spec_FracText_J4.b := funext fun α => congrFun (Classical.choose_spec spec_FracText_J4.ex) α
noncomputable def spec_FracText_J6.b {α : Type} (N : Nat) (v463 : ByteArray) (v464 : Bool × (List Int) × (List Int) × Unit) (k0 : ByteArray → Option α) : Option α :=
 spec_l6One N v464.2.2.1
  (fun x465 =>
   let x466 := !x465
   bif x466 then
    bif (decide (v463.size + (⟨#[47]⟩ : ByteArray).size ≤ 9223372036854775807)) then
     let x467 := (v463 ++ (⟨#[47]⟩ : ByteArray))
     spec_NatText N v464.2.2.1
      (fun x468 =>
       bif decide (x467.size + x468.size ≤ 9223372036854775807) then
        let x469 := x467 ++ x468
        k0 x469
       else
        none)
    else
     none
   else
    k0 v463)
theorem spec_FracText_J6.ex : ∃ f : ((α : Type) → Nat → ByteArray → (Bool × (List Int) × (List Int) × Unit) → (ByteArray → Option α) → Option α), f = fun α => @spec_FracText_J6.b α := ⟨_, rfl⟩
noncomputable def spec_FracText_J6 {α : Type} : Nat → ByteArray → (Bool × (List Int) × (List Int) × Unit) → (ByteArray → Option α) → Option α := Classical.choose spec_FracText_J6.ex α
theorem spec_FracText_J6.eq : @spec_FracText_J6 = @spec_FracText_J6.b := funext fun α => congrFun (Classical.choose_spec spec_FracText_J6.ex) α
/-- spec.FracText -/
noncomputable def spec_FracText.b {α : Type} (N : Nat) (a34 : Bool × (List Int) × (List Int) × Unit) (k0 : ByteArray → Option α) : Option α :=
 spec_FracOk N a34
  (fun x412 =>
   let x413 := !x412
   bif x413 then
    k0 ByteArray.empty
   else
    spec_NatText N a34.2.1
     (fun x457 =>
      spec_FracText_J4 N x457 a34
       (fun x461 x462 =>
        spec_FracText_J6 N x461 x462
         (fun x470 =>
          k0 x470))))
theorem spec_FracText.ex : ∃ f : ((α : Type) → Nat → (Bool × (List Int) × (List Int) × Unit) → (ByteArray → Option α) → Option α), f = fun α => @spec_FracText.b α := ⟨_, rfl⟩
noncomputable def spec_FracText {α : Type} : Nat → (Bool × (List Int) × (List Int) × Unit) → (ByteArray → Option α) → Option α := Classical.choose spec_FracText.ex α
theorem spec_FracText.eq : @spec_FracText = @spec_FracText.b := funext fun α => congrFun (Classical.choose_spec spec_FracText.ex) α

/-- impl.in -/
noncomputable def impl_in.b {α : Type} (N : Nat) (a502 : Int) (a503 : Int) (a504 : Int) (k0 : Bool → Option α) : Option α :=
 let x505 := decide (a503 ≤ a502)
 bif x505 then
  let x506 := decide (a502 ≤ a504)
  k0 x506
 else
  k0 false
theorem impl_in.ex : ∃ f : ((α : Type) → Nat → Int → Int → Int → (Bool → Option α) → Option α), f = fun α => @impl_in.b α := ⟨_, rfl⟩
noncomputable def impl_in {α : Type} : Nat → Int → Int → Int → (Bool → Option α) → Option α := Classical.choose impl_in.ex α
theorem impl_in.eq : @impl_in = @impl_in.b := funext fun α => congrFun (Classical.choose_spec impl_in.ex) α

/-- impl.NatOk$1 -/
noncomputable def impl_NatOk_1.b {α : Type} (N : Nat) (a501 : Int) (k0 : Bool → Option α) : Option α :=
 impl_in N a501 (0 : Int) (65535 : Int)
  (fun x507 =>
   let x508 := !x507
   k0 x508)
theorem impl_NatOk_1.ex : ∃ f : ((α : Type) → Nat → Int → (Bool → Option α) → Option α), f = fun α => @impl_NatOk_1.b α := ⟨_, rfl⟩
noncomputable def impl_NatOk_1 {α : Type} : Nat → Int → (Bool → Option α) → Option α := Classical.choose impl_NatOk_1.ex α
theorem impl_NatOk_1.eq : @impl_NatOk_1 = @impl_NatOk_1.b := funext fun α => congrFun (Classical.choose_spec impl_NatOk_1.ex) α

noncomputable def slices_IndexFunc_int_int__impl_NatOk_1_L0r {α : Type} (N : Nat) (next : List Int → Int → Int → Option α) (k0 : Int → Option α) (k1 : Option α) (v496 : List Int) (v497 : Int) (v498 : Int) : Option α :=
 let x499 := decide (v498 < v497)
 bif x499 then
  bif (decide (v498 < (0 : Int))) then
   none
  else
   match v496[v498.toNat]? with
   | some x500 =>
    impl_NatOk_1 N x500
     (fun x509 =>
      bif x509 then
       k0 v498
      else
       let x510 := (IntKind.i64.wrap (v498 + (1 : Int)))
       next v496 v497 x510)
   | none => none
 else
  k1
noncomputable def slices_IndexFunc_int_int__impl_NatOk_1_L0.b {α : Type} (N n : Nat) (v496 : List Int) (v497 : Int) (v498 : Int) (k0 : Int → Option α) (k1 : Option α) : Option α :=
  Nat.rec (motive := fun _ => List Int → Int → Int → Option α) (fun _ _ _ => none) (fun _ next => slices_IndexFunc_int_int__impl_NatOk_1_L0r N next k0 k1) n v496 v497 v498
theorem slices_IndexFunc_int_int__impl_NatOk_1_L0.ex : ∃ f : ((α : Type) → Nat → Nat → List Int → Int → Int → (Int → Option α) → (Option α) → Option α), f = fun α => @slices_IndexFunc_int_int__impl_NatOk_1_L0.b α := ⟨_, rfl⟩
noncomputable def slices_IndexFunc_int_int__impl_NatOk_1_L0 {α : Type} : Nat → Nat → List Int → Int → Int → (Int → Option α) → (Option α) → Option α := Classical.choose slices_IndexFunc_int_int__impl_NatOk_1_L0.ex α
theorem slices_IndexFunc_int_int__impl_NatOk_1_L0.eq : @slices_IndexFunc_int_int__impl_NatOk_1_L0 = @slices_IndexFunc_int_int__impl_NatOk_1_L0.b := funext fun α => congrFun (Classical.choose_spec slices_IndexFunc_int_int__impl_NatOk_1_L0.ex) α
theorem slices_IndexFunc_int_int__impl_NatOk_1_L0.zero {α : Type} (N : Nat) (v496 : List Int) (v497 : Int) (v498 : Int) (k0 : Int → Option α) (k1 : Option α) : slices_IndexFunc_int_int__impl_NatOk_1_L0 N 0 v496 v497 v498 k0 k1 = none := by rw [slices_IndexFunc_int_int__impl_NatOk_1_L0.eq]; rfl
theorem slices_IndexFunc_int_int__impl_NatOk_1_L0.succ {α : Type} (N n : Nat) (v496 : List Int) (v497 : Int) (v498 : Int) (k0 : Int → Option α) (k1 : Option α) : slices_IndexFunc_int_int__impl_NatOk_1_L0 N (n + 1) v496 v497 v498 k0 k1 = slices_IndexFunc_int_int__impl_NatOk_1_L0r N (fun y0 y1 y2 => slices_IndexFunc_int_int__impl_NatOk_1_L0 N n y0 y1 y2 k0 k1) k0 k1 v496 v497 v498 := by rw [slices_IndexFunc_int_int__impl_NatOk_1_L0.eq]; rfl
/-- slices.IndexFunc[[]int,int] -/
noncomputable def slices_IndexFunc_int_int__impl_NatOk_1.b {α : Type} (N : Nat) (a494 : List Int) (k0 : Int → Option α) : Option α :=
 let x495 := ((a494.length : Nat) : Int)
 slices_IndexFunc_int_int__impl_NatOk_1_L0 N N a494 x495 (0 : Int)
  (fun x511 =>
   k0 x511)
  (
   k0 (-1 : Int))
theorem slices_IndexFunc_int_int__impl_NatOk_1.ex : ∃ f : ((α : Type) → Nat → List Int → (Int → Option α) → Option α), f = fun α => @slices_IndexFunc_int_int__impl_NatOk_1.b α := ⟨_, rfl⟩
noncomputable def slices_IndexFunc_int_int__impl_NatOk_1 {α : Type} : Nat → List Int → (Int → Option α) → Option α := Classical.choose slices_IndexFunc_int_int__impl_NatOk_1.ex α
theorem slices_IndexFunc_int_int__impl_NatOk_1.eq : @slices_IndexFunc_int_int__impl_NatOk_1 = @slices_IndexFunc_int_int__impl_NatOk_1.b := funext fun α => congrFun (Classical.choose_spec slices_IndexFunc_int_int__impl_NatOk_1.ex) α

/-- slices.ContainsFunc[[]int,int] -/
noncomputable def slices_ContainsFunc_int_int__impl_NatOk_1.b {α : Type} (N : Nat) (a493 : List Int) (k0 : Bool → Option α) : Option α :=
 slices_IndexFunc_int_int__impl_NatOk_1 N a493
  (fun x512 =>
   let x513 := (decide ((0 : Int) ≤ x512))
   k0 x513)
theorem slices_ContainsFunc_int_int__impl_NatOk_1.ex : ∃ f : ((α : Type) → Nat → List Int → (Bool → Option α) → Option α), f = fun α => @slices_ContainsFunc_int_int__impl_NatOk_1.b α := ⟨_, rfl⟩
noncomputable def slices_ContainsFunc_int_int__impl_NatOk_1 {α : Type} : Nat → List Int → (Bool → Option α) → Option α := Classical.choose slices_ContainsFunc_int_int__impl_NatOk_1.ex α
theorem slices_ContainsFunc_int_int__impl_NatOk_1.eq : @slices_ContainsFunc_int_int__impl_NatOk_1 = @slices_ContainsFunc_int_int__impl_NatOk_1.b := funext fun α => congrFun (Classical.choose_spec slices_ContainsFunc_int_int__impl_NatOk_1.ex) α

/-- impl.NatOk -/
noncomputable def impl_NatOk.b {α : Type} (N : Nat) (a488 : List Int) (k0 : Bool → Option α) : Option α :=
 let x489 := ((a488.length : Nat) : Int)
 let x490 := (decide (x489 ≤ (256 : Int)))
 bif x490 then
  let x491 := ((a488.length : Nat) : Int)
  let x492 := (decide (x491 = (0 : Int)))
  bif x492 then
   slices_ContainsFunc_int_int__impl_NatOk_1 N a488
    (fun x514 =>
     let x515 := !x514
     k0 x515)
  else
   let x516 := ((a488.length : Nat) : Int)
   let x517 := (IntKind.i64.wrap (x516 - (1 : Int)))
   bif (decide (x517 < (0 : Int))) then
    none
   else
    match a488[x517.toNat]? with
    | some x518 =>
     let x519 := (!(decide (x518 = (0 : Int))))
     bif x519 then
      slices_ContainsFunc_int_int__impl_NatOk_1 N a488
       (fun x520 =>
        let x521 := !x520
        k0 x521)
     else
      k0 false
    | none => none
 else
  k0 false
theorem impl_NatOk.ex : ∃ f : ((α : Type) → Nat → List Int → (Bool → Option α) → Option α), f = fun α => @impl_NatOk.b α := ⟨_, rfl⟩
noncomputable def impl_NatOk {α : Type} : Nat → List Int → (Bool → Option α) → Option α := Classical.choose impl_NatOk.ex α
theorem impl_NatOk.eq : @impl_NatOk = @impl_NatOk.b := funext fun α => congrFun (Classical.choose_spec impl_NatOk.ex) α

/-- impl.nats$1 -/
noncomputable def impl_nats_1.b {α : Type} (N : Nat) (a487 : List Int) (k0 : Bool → Option α) : Option α :=
 impl_NatOk N a487
  (fun x522 =>
   let x523 := !x522
   k0 x523)
theorem impl_nats_1.ex : ∃ f : ((α : Type) → Nat → List Int → (Bool → Option α) → Option α), f = fun α => @impl_nats_1.b α := ⟨_, rfl⟩
noncomputable def impl_nats_1 {α : Type} : Nat → List Int → (Bool → Option α) → Option α := Classical.choose impl_nats_1.ex α
theorem impl_nats_1.eq : @impl_nats_1 = @impl_nats_1.b := funext fun α => congrFun (Classical.choose_spec impl_nats_1.ex) α

noncomputable def slices_IndexFunc_int_int__impl_nats_1_L0r {α : Type} (N : Nat) (next : List (List Int) → Int → Int → Option α) (k0 : Int → Option α) (k1 : Option α) (v482 : List (List Int)) (v483 : Int) (v484 : Int) : Option α :=
 let x485 := decide (v484 < v483)
 bif x485 then
  bif (decide (v484 < (0 : Int))) then
   none
  else
   match v482[v484.toNat]? with
   | some x486 =>
    impl_nats_1 N x486
     (fun x524 =>
      bif x524 then
       k0 v484
      else
       let x525 := (IntKind.i64.wrap (v484 + (1 : Int)))
       next v482 v483 x525)
   | none => none
 else
  k1
noncomputable def slices_IndexFunc_int_int__impl_nats_1_L0.b {α : Type} (N n : Nat) (v482 : List (List Int)) (v483 : Int) (v484 : Int) (k0 : Int → Option α) (k1 : Option α) : Option α :=
  Nat.rec (motive := fun _ => List (List Int) → Int → Int → Option α) (fun _ _ _ => none) (fun _ next => slices_IndexFunc_int_int__impl_nats_1_L0r N next k0 k1) n v482 v483 v484
theorem slices_IndexFunc_int_int__impl_nats_1_L0.ex : ∃ f : ((α : Type) → Nat → Nat → List (List Int) → Int → Int → (Int → Option α) → (Option α) → Option α), f = fun α => @slices_IndexFunc_int_int__impl_nats_1_L0.b α := ⟨_, rfl⟩
noncomputable def slices_IndexFunc_int_int__impl_nats_1_L0 {α : Type} : Nat → Nat → List (List Int) → Int → Int → (Int → Option α) → (Option α) → Option α := Classical.choose slices_IndexFunc_int_int__impl_nats_1_L0.ex α
theorem slices_IndexFunc_int_int__impl_nats_1_L0.eq : @slices_IndexFunc_int_int__impl_nats_1_L0 = @slices_IndexFunc_int_int__impl_nats_1_L0.b := funext fun α => congrFun (Classical.choose_spec slices_IndexFunc_int_int__impl_nats_1_L0.ex) α
theorem slices_IndexFunc_int_int__impl_nats_1_L0.zero {α : Type} (N : Nat) (v482 : List (List Int)) (v483 : Int) (v484 : Int) (k0 : Int → Option α) (k1 : Option α) : slices_IndexFunc_int_int__impl_nats_1_L0 N 0 v482 v483 v484 k0 k1 = none := by rw [slices_IndexFunc_int_int__impl_nats_1_L0.eq]; rfl
theorem slices_IndexFunc_int_int__impl_nats_1_L0.succ {α : Type} (N n : Nat) (v482 : List (List Int)) (v483 : Int) (v484 : Int) (k0 : Int → Option α) (k1 : Option α) : slices_IndexFunc_int_int__impl_nats_1_L0 N (n + 1) v482 v483 v484 k0 k1 = slices_IndexFunc_int_int__impl_nats_1_L0r N (fun y0 y1 y2 => slices_IndexFunc_int_int__impl_nats_1_L0 N n y0 y1 y2 k0 k1) k0 k1 v482 v483 v484 := by rw [slices_IndexFunc_int_int__impl_nats_1_L0.eq]; rfl
/-- slices.IndexFunc[[][]int,[]int] -/
noncomputable def slices_IndexFunc_int_int__impl_nats_1.b {α : Type} (N : Nat) (a480 : List (List Int)) (k0 : Int → Option α) : Option α :=
 let x481 := ((a480.length : Nat) : Int)
 slices_IndexFunc_int_int__impl_nats_1_L0 N N a480 x481 (0 : Int)
  (fun x526 =>
   k0 x526)
  (
   k0 (-1 : Int))
theorem slices_IndexFunc_int_int__impl_nats_1.ex : ∃ f : ((α : Type) → Nat → List (List Int) → (Int → Option α) → Option α), f = fun α => @slices_IndexFunc_int_int__impl_nats_1.b α := ⟨_, rfl⟩
noncomputable def slices_IndexFunc_int_int__impl_nats_1 {α : Type} : Nat → List (List Int) → (Int → Option α) → Option α := Classical.choose slices_IndexFunc_int_int__impl_nats_1.ex α
theorem slices_IndexFunc_int_int__impl_nats_1.eq : @slices_IndexFunc_int_int__impl_nats_1 = @slices_IndexFunc_int_int__impl_nats_1.b := funext fun α => congrFun (Classical.choose_spec slices_IndexFunc_int_int__impl_nats_1.ex) α

/-- slices.ContainsFunc[[][]int,[]int] -/
noncomputable def slices_ContainsFunc_int_int__impl_nats_1.b {α : Type} (N : Nat) (a479 : List (List Int)) (k0 : Bool → Option α) : Option α :=
 slices_IndexFunc_int_int__impl_nats_1 N a479
  (fun x527 =>
   let x528 := (decide ((0 : Int) ≤ x527))
   k0 x528)
theorem slices_ContainsFunc_int_int__impl_nats_1.ex : ∃ f : ((α : Type) → Nat → List (List Int) → (Bool → Option α) → Option α), f = fun α => @slices_ContainsFunc_int_int__impl_nats_1.b α := ⟨_, rfl⟩
noncomputable def slices_ContainsFunc_int_int__impl_nats_1 {α : Type} : Nat → List (List Int) → (Bool → Option α) → Option α := Classical.choose slices_ContainsFunc_int_int__impl_nats_1.ex α
theorem slices_ContainsFunc_int_int__impl_nats_1.eq : @slices_ContainsFunc_int_int__impl_nats_1 = @slices_ContainsFunc_int_int__impl_nats_1.b := funext fun α => congrFun (Classical.choose_spec slices_ContainsFunc_int_int__impl_nats_1.ex) α

/-- impl.nats -/
noncomputable def impl_nats.b {α : Type} (N : Nat) (a478 : List (List Int)) (k0 : Bool → Option α) : Option α :=
 slices_ContainsFunc_int_int__impl_nats_1 N a478
  (fun x529 =>
   let x530 := !x529
   k0 x530)
theorem impl_nats.ex : ∃ f : ((α : Type) → Nat → List (List Int) → (Bool → Option α) → Option α), f = fun α => @impl_nats.b α := ⟨_, rfl⟩
noncomputable def impl_nats {α : Type} : Nat → List (List Int) → (Bool → Option α) → Option α := Classical.choose impl_nats.ex α
theorem impl_nats.eq : @impl_nats = @impl_nats.b := funext fun α => congrFun (Classical.choose_spec impl_nats.ex) α

noncomputable def impl_natCmp_L0r {α : Type} (N : Nat) (next : List Int → List Int → Int → Option α) (k0 : Int → Option α) (k1 : Option α) (v625 : List Int) (v626 : List Int) (v627 : Int) : Option α :=
 let x628 := (decide ((0 : Int) ≤ v627))
 bif x628 then
  bif (decide (v627 < (0 : Int))) then
   none
  else
   match v625[v627.toNat]? with
   | some x629 =>
    bif (decide (v627 < (0 : Int))) then
     none
    else
     match v626[v627.toNat]? with
     | some x630 =>
      let x631 := !(decide (x629 = x630))
      bif x631 then
       bif (decide (v627 < (0 : Int))) then
        none
       else
        match v625[v627.toNat]? with
        | some x632 =>
         bif (decide (v627 < (0 : Int))) then
          none
         else
          match v626[v627.toNat]? with
          | some x633 =>
           let x634 := IntKind.i64.wrap (x632 - x633)
           let x635 := (minI (1 : Int) x634)
           let x636 := (maxI (-1 : Int) x635)
           k0 x636
          | none => none
        | none => none
      else
       let x637 := (IntKind.i64.wrap (v627 - (1 : Int)))
       next v625 v626 x637
     | none => none
   | none => none
 else
  k1
noncomputable def impl_natCmp_L0.b {α : Type} (N n : Nat) (v625 : List Int) (v626 : List Int) (v627 : Int) (k0 : Int → Option α) (k1 : Option α) : Option α :=
  Nat.rec (motive := fun _ => List Int → List Int → Int → Option α) (fun _ _ _ => none) (fun _ next => impl_natCmp_L0r N next k0 k1) n v625 v626 v627
theorem impl_natCmp_L0.ex : ∃ f : ((α : Type) → Nat → Nat → List Int → List Int → Int → (Int → Option α) → (Option α) → Option α), f = fun α => @impl_natCmp_L0.b α := ⟨_, rfl⟩
noncomputable def impl_natCmp_L0 {α : Type} : Nat → Nat → List Int → List Int → Int → (Int → Option α) → (Option α) → Option α := Classical.choose impl_natCmp_L0.ex α
theorem impl_natCmp_L0.eq : @impl_natCmp_L0 = @impl_natCmp_L0.b := funext fun α => congrFun (Classical.choose_spec impl_natCmp_L0.ex) α
theorem impl_natCmp_L0.zero {α : Type} (N : Nat) (v625 : List Int) (v626 : List Int) (v627 : Int) (k0 : Int → Option α) (k1 : Option α) : impl_natCmp_L0 N 0 v625 v626 v627 k0 k1 = none := by rw [impl_natCmp_L0.eq]; rfl
theorem impl_natCmp_L0.succ {α : Type} (N n : Nat) (v625 : List Int) (v626 : List Int) (v627 : Int) (k0 : Int → Option α) (k1 : Option α) : impl_natCmp_L0 N (n + 1) v625 v626 v627 k0 k1 = impl_natCmp_L0r N (fun y0 y1 y2 => impl_natCmp_L0 N n y0 y1 y2 k0 k1) k0 k1 v625 v626 v627 := by rw [impl_natCmp_L0.eq]; rfl
/-- impl.natCmp -/
noncomputable def impl_natCmp.b {α : Type} (N : Nat) (a613 : List Int) (a614 : List Int) (k0 : Int → Option α) : Option α :=
 let x615 := ((a613.length : Nat) : Int)
 let x616 := ((a614.length : Nat) : Int)
 let x617 := !(decide (x615 = x616))
 bif x617 then
  let x618 := ((a613.length : Nat) : Int)
  let x619 := ((a614.length : Nat) : Int)
  let x620 := IntKind.i64.wrap (x618 - x619)
  let x621 := (minI (1 : Int) x620)
  let x622 := (maxI (-1 : Int) x621)
  k0 x622
 else
  let x623 := ((a613.length : Nat) : Int)
  let x624 := (IntKind.i64.wrap (x623 - (1 : Int)))
  impl_natCmp_L0 N N a613 a614 x624
   (fun x638 =>
    k0 x638)
   (
    k0 (0 : Int))
theorem impl_natCmp.ex : ∃ f : ((α : Type) → Nat → List Int → List Int → (Int → Option α) → Option α), f = fun α => @impl_natCmp.b α := ⟨_, rfl⟩
noncomputable def impl_natCmp {α : Type} : Nat → List Int → List Int → (Int → Option α) → Option α := Classical.choose impl_natCmp.ex α
theorem impl_natCmp.eq : @impl_natCmp = @impl_natCmp.b := funext fun α => congrFun (Classical.choose_spec impl_natCmp.ex) α

noncomputable def impl_trim_L0r {α : Type} (N : Nat) (next : List Int → Option α) (k0 : List Int → Option α) (v666 : List Int) : Option α :=
 let x667 := ((v666.length : Nat) : Int)
 let x668 := (decide ((0 : Int) < x667))
 bif x668 then
  let x669 := ((v666.length : Nat) : Int)
  let x670 := (IntKind.i64.wrap (x669 - (1 : Int)))
  bif (decide (x670 < (0 : Int))) then
   none
  else
   match v666[x670.toNat]? with
   | some x671 =>
    let x672 := (decide (x671 = (0 : Int)))
    bif x672 then
     let x673 := ((v666.length : Nat) : Int)
     let x674 := (IntKind.i64.wrap (x673 - (1 : Int)))
     bif (decide ((0 : Int) ≤ x674)) then
      bif (decide (x674 ≤ ((v666.length : Nat) : Int))) then
       let x675 := v666.take x674.toNat
       next x675
      else
       none
     else
      none
    else
     k0 v666
   | none => none
 else
  k0 v666
noncomputable def impl_trim_L0.b {α : Type} (N n : Nat) (v666 : List Int) (k0 : List Int → Option α) : Option α :=
  Nat.rec (motive := fun _ => List Int → Option α) (fun _ => none) (fun _ next => impl_trim_L0r N next k0) n v666
theorem impl_trim_L0.ex : ∃ f : ((α : Type) → Nat → Nat → List Int → (List Int → Option α) → Option α), f = fun α => @impl_trim_L0.b α := ⟨_, rfl⟩
noncomputable def impl_trim_L0 {α : Type} : Nat → Nat → List Int → (List Int → Option α) → Option α := Classical.choose impl_trim_L0.ex α
theorem impl_trim_L0.eq : @impl_trim_L0 = @impl_trim_L0.b := funext fun α => congrFun (Classical.choose_spec impl_trim_L0.ex) α
theorem impl_trim_L0.zero {α : Type} (N : Nat) (v666 : List Int) (k0 : List Int → Option α) : impl_trim_L0 N 0 v666 k0 = none := by rw [impl_trim_L0.eq]; rfl
theorem impl_trim_L0.succ {α : Type} (N n : Nat) (v666 : List Int) (k0 : List Int → Option α) : impl_trim_L0 N (n + 1) v666 k0 = impl_trim_L0r N (fun y0 => impl_trim_L0 N n y0 k0) k0 v666 := by rw [impl_trim_L0.eq]; rfl
/-- impl.trim -/
noncomputable def impl_trim.b {α : Type} (N : Nat) (a665 : List Int) (k0 : List Int → Option α) : Option α :=
 impl_trim_L0 N N a665
  (fun x676 =>
   k0 x676)
theorem impl_trim.ex : ∃ f : ((α : Type) → Nat → List Int → (List Int → Option α) → Option α), f = fun α => @impl_trim.b α := ⟨_, rfl⟩
noncomputable def impl_trim {α : Type} : Nat → List Int → (List Int → Option α) → Option α := Classical.choose impl_trim.ex α
theorem impl_trim.eq : @impl_trim = @impl_trim.b := funext fun α => congrFun (Classical.choose_spec impl_trim.ex) α

noncomputable def math_bits_Len64_J1.b {α : Type} (N : Nat) (v686 : Int) (v687 : Int) (k0 : Int → Int → Option α) : Option α :=
 let x688 := (decide ((4294967296 : Int) ≤ v686))
 bif x688 then
  let x689 := (shrI .u64 v686 (32 : Int))
  k0 x689 (32 : Int)
 else
  k0 v686 v687
theorem math_bits_Len64_J1.ex : ∃ f : ((α : Type) → Nat → Int → Int → (Int → Int → Option α) → Option α), f = fun α => @math_bits_Len64_J1.b α := ⟨_, rfl⟩
noncomputable def math_bits_Len64_J1 {α : Type} : Nat → Int → Int → (Int → Int → Option α) → Option α := Classical.choose math_bits_Len64_J1.ex α
theorem math_bits_Len64_J1.eq : @math_bits_Len64_J1 = @math_bits_Len64_J1.b := funext fun α => congrFun (Classical.choose_spec math_bits_Len64_J1.ex) α
noncomputable def math_bits_Len64_J4.b {α : Type} (N : Nat) (v692 : Int) (v693 : Int) (k0 : Int → Int → Option α) : Option α :=
 let x694 := (decide ((65536 : Int) ≤ v692))
 bif x694 then
  let x695 := (shrI .u64 v692 (16 : Int))
  let x696 := (IntKind.i64.wrap (v693 + (16 : Int)))
  k0 x695 x696
 else
  k0 v692 v693
theorem math_bits_Len64_J4.ex : ∃ f : ((α : Type) → Nat → Int → Int → (Int → Int → Option α) → Option α), f = fun α => @math_bits_Len64_J4.b α := ⟨_, rfl⟩
noncomputable def math_bits_Len64_J4 {α : Type} : Nat → Int → Int → (Int → Int → Option α) → Option α := Classical.choose math_bits_Len64_J4.ex α
theorem math_bits_Len64_J4.eq : @math_bits_Len64_J4 = @math_bits_Len64_J4.b := funext fun α => congrFun (Classical.choose_spec math_bits_Len64_J4.ex) α
noncomputable def math_bits_Len64_J7.b {α : Type} (N : Nat) (v699 : Int) (v700 : Int) (k0 : Int → Int → Option α) : Option α :=
 let x701 := (decide ((256 : Int) ≤ v699))
 bif x701 then
  let x702 := (shrI .u64 v699 (8 : Int))
  let x703 := (IntKind.i64.wrap (v700 + (8 : Int)))
  k0 x702 x703
 else
  k0 v699 v700
theorem math_bits_Len64_J7.ex : ∃ f : ((α : Type) → Nat → Int → Int → (Int → Int → Option α) → Option α), f = fun α => @math_bits_Len64_J7.b α := ⟨_, rfl⟩
noncomputable def math_bits_Len64_J7 {α : Type} : Nat → Int → Int → (Int → Int → Option α) → Option α := Classical.choose math_bits_Len64_J7.ex α
theorem math_bits_Len64_J7.eq : @math_bits_Len64_J7 = @math_bits_Len64_J7.b := funext fun α => congrFun (Classical.choose_spec math_bits_Len64_J7.ex) α
/-- math/bits.Len64 -/
noncomputable def math_bits_Len64.b {α : Type} (N : Nat) (a685 : Int) (k0 : Int → Option α) : Option α :=
 math_bits_Len64_J1 N a685 (0 : Int)
  (fun x690 x691 =>
   math_bits_Len64_J4 N x690 x691
    (fun x697 x698 =>
     math_bits_Len64_J7 N x697 x698
      (fun x704 x705 =>
       let x706 := IntKind.u8.wrap x704
       bif (decide (x706 < (0 : Int))) then
        none
       else
        match ((⟨#[0, 1, 2, 2, 3, 3, 3, 3, 4, 4, 4, 4, 4, 4, 4, 4, 5, 5, 5, 5, 5, 5, 5, 5, 5, 5, 5, 5, 5, 5, 5, 5, 6, 6, 6, 6, 6, 6, 6, 6, 6, 6, 6, 6, 6, 6, 6, 6, 6, 6, 6, 6, 6, 6, 6, 6, 6, 6, 6, 6, 6, 6, 6, 6, 7, 7, 7, 7, 7, 7, 7, 7, 7, 7, 7, 7, 7, 7, 7, 7, 7, 7, 7, 7, 7, 7, 7, 7, 7, 7, 7, 7, 7, 7, 7, 7, 7, 7, 7, 7, 7, 7, 7, 7, 7, 7, 7, 7, 7, 7, 7, 7, 7, 7, 7, 7, 7, 7, 7, 7, 7, 7, 7, 7, 7, 7, 7, 7, 8, 8, 8, 8, 8, 8, 8, 8, 8, 8, 8, 8, 8, 8, 8, 8, 8, 8, 8, 8, 8, 8, 8, 8, 8, 8, 8, 8, 8, 8, 8, 8, 8, 8, 8, 8, 8, 8, 8, 8, 8, 8, 8, 8, 8, 8, 8, 8, 8, 8, 8, 8, 8, 8, 8, 8, 8, 8, 8, 8, 8, 8, 8, 8, 8, 8, 8, 8, 8, 8, 8, 8, 8, 8, 8, 8, 8, 8, 8, 8, 8, 8, 8, 8, 8, 8, 8, 8, 8, 8, 8, 8, 8, 8, 8, 8, 8, 8, 8, 8, 8, 8, 8, 8, 8, 8, 8, 8, 8, 8, 8, 8, 8, 8, 8, 8, 8, 8, 8, 8, 8, 8, 8, 8, 8, 8, 8, 8]⟩ : ByteArray)[x706.toNat]? : Option UInt8) with
        | some x707 =>
         let x708 := ((x707.toNat : Nat) : Int)
         let x709 := IntKind.i64.wrap x708
         let x710 := IntKind.i64.wrap (x705 + x709)
         k0 x710
        | none => none)))
theorem math_bits_Len64.ex : ∃ f : ((α : Type) → Nat → Int → (Int → Option α) → Option α), f = fun α => @math_bits_Len64.b α := ⟨_, rfl⟩
noncomputable def math_bits_Len64 {α : Type} : Nat → Int → (Int → Option α) → Option α := Classical.choose math_bits_Len64.ex α
theorem math_bits_Len64.eq : @math_bits_Len64 = @math_bits_Len64.b := funext fun α => congrFun (Classical.choose_spec math_bits_Len64.ex) α

/-- math/bits.Len -/
noncomputable def math_bits_Len.b {α : Type} (N : Nat) (a684 : Int) (k0 : Int → Option α) : Option α :=
 math_bits_Len64 N a684
  (fun x711 =>
   k0 x711)
theorem math_bits_Len.ex : ∃ f : ((α : Type) → Nat → Int → (Int → Option α) → Option α), f = fun α => @math_bits_Len.b α := ⟨_, rfl⟩
noncomputable def math_bits_Len {α : Type} : Nat → Int → (Int → Option α) → Option α := Classical.choose math_bits_Len.ex α
theorem math_bits_Len.eq : @math_bits_Len = @math_bits_Len.b := funext fun α => congrFun (Classical.choose_spec math_bits_Len.ex) α

/-- slices.Clone[[]int,int] -/
noncomputable def slices_Clone_int_int {α : Type} (N : Nat) (a1 : List Int) (k0 : List Int → Option α) : Option α :=
  bif decide (([] : List Int).length + a1.length ≤ 8796093022208) then k0 a1 else none

noncomputable def impl_natShift_J10.b {α : Type} (N : Nat) (v790 : List Int) (v791 : Int) (v792 : Int) (v793 : Int) (v794 : Int) (v795 : Int) (v796 : List Int) (k0 : List Int → Int → Int → Int → Int → List Int → Option α) : Option α :=
 let x797 := IntKind.i64.wrap (v791 + v793)
 let x798 := (IntKind.i64.wrap (x797 + (1 : Int)))
 let x799 := ((v790.length : Nat) : Int)
 let x800 := decide (x798 < x799)
 bif x800 then
  bif (decide (v793 < (0 : Int))) then
   none
  else
   bif decide (v793.toNat < v796.length) then
    match v796[v793.toNat]? with
    | some x801 =>
     let x802 := IntKind.i64.wrap (v791 + v793)
     let x803 := (IntKind.i64.wrap (x802 + (1 : Int)))
     bif (decide (x803 < (0 : Int))) then
      none
     else
      match v790[x803.toNat]? with
      | some x804 =>
       let x805 := (IntKind.i64.wrap ((16 : Int) - v792))
       bif (decide (x805 < (0 : Int))) then
        none
       else
        let x806 := shlI .i64 x804 x805
        let x807 := (bitI .and .i64 x806 (65535 : Int))
        let x808 := bitI .or .i64 x801 x807
        bif (decide (v793 < (0 : Int))) then
         none
        else
         bif decide (v793.toNat < v796.length) then
          match v796[v793.toNat]? with
          | some x809 =>
           let x810 := v796.set v793.toNat x808
           k0 v790 v791 v792 v794 v795 x810
          | none => none
         else
          none
      | none => none
    | none => none
   else
    none
 else
  k0 v790 v791 v792 v794 v795 v796
theorem impl_natShift_J10.ex : ∃ f : ((α : Type) → Nat → List Int → Int → Int → Int → Int → Int → List Int → (List Int → Int → Int → Int → Int → List Int → Option α) → Option α), f = fun α => @impl_natShift_J10.b α := ⟨_, rfl⟩
noncomputable def impl_natShift_J10 {α : Type} : Nat → List Int → Int → Int → Int → Int → Int → List Int → (List Int → Int → Int → Int → Int → List Int → Option α) → Option α := Classical.choose impl_natShift_J10.ex α
theorem impl_natShift_J10.eq : @impl_natShift_J10 = @impl_natShift_J10.b := funext fun α => congrFun (Classical.choose_spec impl_natShift_J10.ex) α
noncomputable def impl_natShift_L0r {α : Type} (N : Nat) (next : List Int → Int → Int → Int → Int → List Int → Option α) (k0 : List Int → Option α) (v779 : List Int) (v780 : Int) (v781 : Int) (v782 : Int) (v783 : Int) (v784 : List Int) : Option α :=
 let x785 := decide (v783 < v782)
 bif x785 then
  bif (decide (v783 < (0 : Int))) then
   none
  else
   bif decide (v783.toNat < v784.length) then
    match v784[v783.toNat]? with
    | some x786 =>
     bif (decide (v781 < (0 : Int))) then
      none
     else
      let x787 := shrI .i64 x786 v781
      bif (decide (v783 < (0 : Int))) then
       none
      else
       bif decide (v783.toNat < v784.length) then
        match v784[v783.toNat]? with
        | some x788 =>
         let x789 := v784.set v783.toNat x787
         impl_natShift_J10 N v779 v780 v781 v783 v782 v783 x789
          (fun x811 x812 x813 x814 x815 x816 =>
           let x817 := (IntKind.i64.wrap (x815 + (1 : Int)))
           next x811 x812 x813 x814 x817 x816)
        | none => none
       else
        none
    | none => none
   else
    none
 else
  k0 v784
noncomputable def impl_natShift_L0.b {α : Type} (N n : Nat) (v779 : List Int) (v780 : Int) (v781 : Int) (v782 : Int) (v783 : Int) (v784 : List Int) (k0 : List Int → Option α) : Option α :=
  Nat.rec (motive := fun _ => List Int → Int → Int → Int → Int → List Int → Option α) (fun _ _ _ _ _ _ => none) (fun _ next => impl_natShift_L0r N next k0) n v779 v780 v781 v782 v783 v784
theorem impl_natShift_L0.ex : ∃ f : ((α : Type) → Nat → Nat → List Int → Int → Int → Int → Int → List Int → (List Int → Option α) → Option α), f = fun α => @impl_natShift_L0.b α := ⟨_, rfl⟩
noncomputable def impl_natShift_L0 {α : Type} : Nat → Nat → List Int → Int → Int → Int → Int → List Int → (List Int → Option α) → Option α := Classical.choose impl_natShift_L0.ex α
theorem impl_natShift_L0.eq : @impl_natShift_L0 = @impl_natShift_L0.b := funext fun α => congrFun (Classical.choose_spec impl_natShift_L0.ex) α
theorem impl_natShift_L0.zero {α : Type} (N : Nat) (v779 : List Int) (v780 : Int) (v781 : Int) (v782 : Int) (v783 : Int) (v784 : List Int) (k0 : List Int → Option α) : impl_natShift_L0 N 0 v779 v780 v781 v782 v783 v784 k0 = none := by rw [impl_natShift_L0.eq]; rfl
theorem impl_natShift_L0.succ {α : Type} (N n : Nat) (v779 : List Int) (v780 : Int) (v781 : Int) (v782 : Int) (v783 : Int) (v784 : List Int) (k0 : List Int → Option α) : impl_natShift_L0 N (n + 1) v779 v780 v781 v782 v783 v784 k0 = impl_natShift_L0r N (fun y0 y1 y2 y3 y4 y5 => impl_natShift_L0 N n y0 y1 y2 y3 y4 y5 k0) k0 v779 v780 v781 v782 v783 v784 := by rw [impl_natShift_L0.eq]; rfl
noncomputable def impl_natShift_L2r {α : Type} (N : Nat) (next : Int → List Int → Int → Int → List Int → Option α) (k0 : List Int → Option α) (v826 : Int) (v827 : List Int) (v828 : Int) (v829 : Int) (v830 : List Int) : Option α :=
 let x831 := decide (v829 < v828)
 bif x831 then
  bif (decide (v829 < (0 : Int))) then
   none
  else
   match v827[v829.toNat]? with
   | some x832 =>
    let x833 := (Int.tmod v826 (16 : Int))
    bif (decide (x833 < (0 : Int))) then
     none
    else
     let x834 := shlI .i64 x832 x833
     let x835 := (IntKind.i64.wrap (Int.tdiv v826 (16 : Int)))
     let x836 := IntKind.i64.wrap (x835 + v829)
     bif (decide (x836 < (0 : Int))) then
      none
     else
      bif decide (x836.toNat < v830.length) then
       match v830[x836.toNat]? with
       | some x837 =>
        let x838 := (bitI .and .i64 x834 (65535 : Int))
        let x839 := bitI .or .i64 x837 x838
        bif (decide (x836 < (0 : Int))) then
         none
        else
         bif decide (x836.toNat < v830.length) then
          match v830[x836.toNat]? with
          | some x840 =>
           let x841 := v830.set x836.toNat x839
           let x842 := (IntKind.i64.wrap (Int.tdiv v826 (16 : Int)))
           let x843 := IntKind.i64.wrap (x842 + v829)
           let x844 := (IntKind.i64.wrap (x843 + (1 : Int)))
           let x845 := (shrI .i64 x834 (16 : Int))
           bif (decide (x844 < (0 : Int))) then
            none
           else
            bif decide (x844.toNat < x841.length) then
             match x841[x844.toNat]? with
             | some x846 =>
              let x847 := x841.set x844.toNat x845
              let x848 := (IntKind.i64.wrap (v829 + (1 : Int)))
              next v826 v827 v828 x848 x847
             | none => none
            else
             none
          | none => none
         else
          none
       | none => none
      else
       none
   | none => none
 else
  k0 v830
noncomputable def impl_natShift_L2.b {α : Type} (N n : Nat) (v826 : Int) (v827 : List Int) (v828 : Int) (v829 : Int) (v830 : List Int) (k0 : List Int → Option α) : Option α :=
  Nat.rec (motive := fun _ => Int → List Int → Int → Int → List Int → Option α) (fun _ _ _ _ _ => none) (fun _ next => impl_natShift_L2r N next k0) n v826 v827 v828 v829 v830
theorem impl_natShift_L2.ex : ∃ f : ((α : Type) → Nat → Nat → Int → List Int → Int → Int → List Int → (List Int → Option α) → Option α), f = fun α => @impl_natShift_L2.b α := ⟨_, rfl⟩
noncomputable def impl_natShift_L2 {α : Type} : Nat → Nat → Int → List Int → Int → Int → List Int → (List Int → Option α) → Option α := Classical.choose impl_natShift_L2.ex α
theorem impl_natShift_L2.eq : @impl_natShift_L2 = @impl_natShift_L2.b := funext fun α => congrFun (Classical.choose_spec impl_natShift_L2.ex) α
theorem impl_natShift_L2.zero {α : Type} (N : Nat) (v826 : Int) (v827 : List Int) (v828 : Int) (v829 : Int) (v830 : List Int) (k0 : List Int → Option α) : impl_natShift_L2 N 0 v826 v827 v828 v829 v830 k0 = none := by rw [impl_natShift_L2.eq]; rfl
theorem impl_natShift_L2.succ {α : Type} (N n : Nat) (v826 : Int) (v827 : List Int) (v828 : Int) (v829 : Int) (v830 : List Int) (k0 : List Int → Option α) : impl_natShift_L2 N (n + 1) v826 v827 v828 v829 v830 k0 = impl_natShift_L2r N (fun y0 y1 y2 y3 y4 => impl_natShift_L2 N n y0 y1 y2 y3 y4 k0) k0 v826 v827 v828 v829 v830 := by rw [impl_natShift_L2.eq]; rfl
/-- impl.natShift -/
noncomputable def impl_natShift.b {α : Type} (N : Nat) (a767 : List Int) (a768 : Int) (k0 : List Int → Option α) : Option α :=
 let x769 := (decide (a768 < (0 : Int)))
 bif x769 then
  let x770 := IntKind.i64.wrap (0 - a768)
  let x771 := (IntKind.i64.wrap (Int.tdiv x770 (16 : Int)))
  let x772 := IntKind.i64.wrap (0 - a768)
  let x773 := (Int.tmod x772 (16 : Int))
  let x774 := ((a767.length : Nat) : Int)
  let x775 := decide (x774 ≤ x771)
  bif x775 then
   k0 []
  else
   bif (decide ((0 : Int) ≤ x771)) then
    bif (decide (x771 ≤ ((a767.length : Nat) : Int))) then
     let x776 := a767.drop x771.toNat
     slices_Clone_int_int N x776
      (fun x777 =>
       let x778 := ((x777.length : Nat) : Int)
       impl_natShift_L0 N N a767 x771 x773 x778 (0 : Int) x777
        (fun x818 =>
         impl_trim N x818
          (fun x819 =>
           k0 x819)))
    else
     none
   else
    none
 else
  let x820 := (IntKind.i64.wrap (Int.tdiv a768 (16 : Int)))
  let x821 := ((a767.length : Nat) : Int)
  let x822 := IntKind.i64.wrap (x820 + x821)
  let x823 := (IntKind.i64.wrap (x822 + (1 : Int)))
  bif (decide ((0 : Int) ≤ x823)) then
   bif decide (x823 ≤ x823) then
    bif (decide (x823 ≤ ((8796093022208 : Nat) : Int))) then
     let x824 := (List.replicate x823.toNat (0 : Int))
     let x825 := ((a767.length : Nat) : Int)
     impl_natShift_L2 N N a768 a767 x825 (0 : Int) x824
      (fun x849 =>
       impl_trim N x849
        (fun x850 =>
         k0 x850))
    else
     none
   else
    none
  else
   none
theorem impl_natShift.ex : ∃ f : ((α : Type) → Nat → List Int → Int → (List Int → Option α) → Option α), f = fun α => @impl_natShift.b α := ⟨_, rfl⟩
noncomputable def impl_natShift {α : Type} : Nat → List Int → Int → (List Int → Option α) → Option α := Classical.choose impl_natShift.ex α
theorem impl_natShift.eq : @impl_natShift = @impl_natShift.b := funext fun α => congrFun (Classical.choose_spec impl_natShift.ex) α

noncomputable def impl_natDiv_L0r {α : Type} (N : Nat) (next : List Int → List Int → Int → Int → List Int → Option α) (k0 : Int → List Int → Option α) (v647 : List Int) (v648 : List Int) (v649 : Int) (v650 : Int) (v651 : List Int) : Option α :=
 let x652 := (decide ((0 : Int) ≤ v650))
 bif x652 then
  let x653 := (shlI .i64 v649 (16 : Int))
  bif (decide (v650 < (0 : Int))) then
   none
  else
   match v647[v650.toNat]? with
   | some x654 =>
    let x655 := bitI .or .i64 x653 x654
    match v648[0]? with
    | some x656 =>
     bif (decide (x656 = (0 : Int))) then
      none
     else
      let x657 := IntKind.i64.wrap (Int.tdiv x655 x656)
      match v648[0]? with
      | some x658 =>
       bif (decide (x658 = (0 : Int))) then
        none
       else
        let x659 := Int.tmod x655 x658
        bif (decide (v650 < (0 : Int))) then
         none
        else
         bif decide (v650.toNat < v651.length) then
          match v651[v650.toNat]? with
          | some x660 =>
           let x661 := v651.set v650.toNat x657
           let x662 := (IntKind.i64.wrap (v650 - (1 : Int)))
           next v647 v648 x659 x662 x661
          | none => none
         else
          none
      | none => none
    | none => none
   | none => none
 else
  k0 v649 v651
noncomputable def impl_natDiv_L0.b {α : Type} (N n : Nat) (v647 : List Int) (v648 : List Int) (v649 : Int) (v650 : Int) (v651 : List Int) (k0 : Int → List Int → Option α) : Option α :=
  Nat.rec (motive := fun _ => List Int → List Int → Int → Int → List Int → Option α) (fun _ _ _ _ _ => none) (fun _ next => impl_natDiv_L0r N next k0) n v647 v648 v649 v650 v651
theorem impl_natDiv_L0.ex : ∃ f : ((α : Type) → Nat → Nat → List Int → List Int → Int → Int → List Int → (Int → List Int → Option α) → Option α), f = fun α => @impl_natDiv_L0.b α := ⟨_, rfl⟩
noncomputable def impl_natDiv_L0 {α : Type} : Nat → Nat → List Int → List Int → Int → Int → List Int → (Int → List Int → Option α) → Option α := Classical.choose impl_natDiv_L0.ex α
theorem impl_natDiv_L0.eq : @impl_natDiv_L0 = @impl_natDiv_L0.b := funext fun α => congrFun (Classical.choose_spec impl_natDiv_L0.ex) α
theorem impl_natDiv_L0.zero {α : Type} (N : Nat) (v647 : List Int) (v648 : List Int) (v649 : Int) (v650 : Int) (v651 : List Int) (k0 : Int → List Int → Option α) : impl_natDiv_L0 N 0 v647 v648 v649 v650 v651 k0 = none := by rw [impl_natDiv_L0.eq]; rfl
theorem impl_natDiv_L0.succ {α : Type} (N n : Nat) (v647 : List Int) (v648 : List Int) (v649 : Int) (v650 : Int) (v651 : List Int) (k0 : Int → List Int → Option α) : impl_natDiv_L0 N (n + 1) v647 v648 v649 v650 v651 k0 = impl_natDiv_L0r N (fun y0 y1 y2 y3 y4 => impl_natDiv_L0 N n y0 y1 y2 y3 y4 k0) k0 v647 v648 v649 v650 v651 := by rw [impl_natDiv_L0.eq]; rfl
noncomputable def impl_natDiv_L2r {α : Type} (N : Nat) (next : List Int → Int → List Int → Int → List Int → Option α) (k0 : Int → List Int → Int → List Int → Option α) (v857 : List Int) (v858 : Int) (v859 : List Int) (v860 : Int) (v861 : List Int) : Option α :=
 let x862 := ((v861.length : Nat) : Int)
 let x863 := ((v857.length : Nat) : Int)
 let x864 := (IntKind.i64.wrap (x863 + (1 : Int)))
 let x865 := decide (x862 < x864)
 bif x865 then
  let x866 := [(0 : Int)]
  bif decide (v861.length + x866.length ≤ 8796093022208) then
   let x867 := v861 ++ x866
   next v857 v858 v859 v860 x867
  else
   none
 else
  k0 v858 v859 v860 v861
noncomputable def impl_natDiv_L2.b {α : Type} (N n : Nat) (v857 : List Int) (v858 : Int) (v859 : List Int) (v860 : Int) (v861 : List Int) (k0 : Int → List Int → Int → List Int → Option α) : Option α :=
  Nat.rec (motive := fun _ => List Int → Int → List Int → Int → List Int → Option α) (fun _ _ _ _ _ => none) (fun _ next => impl_natDiv_L2r N next k0) n v857 v858 v859 v860 v861
theorem impl_natDiv_L2.ex : ∃ f : ((α : Type) → Nat → Nat → List Int → Int → List Int → Int → List Int → (Int → List Int → Int → List Int → Option α) → Option α), f = fun α => @impl_natDiv_L2.b α := ⟨_, rfl⟩
noncomputable def impl_natDiv_L2 {α : Type} : Nat → Nat → List Int → Int → List Int → Int → List Int → (Int → List Int → Int → List Int → Option α) → Option α := Classical.choose impl_natDiv_L2.ex α
theorem impl_natDiv_L2.eq : @impl_natDiv_L2 = @impl_natDiv_L2.b := funext fun α => congrFun (Classical.choose_spec impl_natDiv_L2.ex) α
theorem impl_natDiv_L2.zero {α : Type} (N : Nat) (v857 : List Int) (v858 : Int) (v859 : List Int) (v860 : Int) (v861 : List Int) (k0 : Int → List Int → Int → List Int → Option α) : impl_natDiv_L2 N 0 v857 v858 v859 v860 v861 k0 = none := by rw [impl_natDiv_L2.eq]; rfl
theorem impl_natDiv_L2.succ {α : Type} (N n : Nat) (v857 : List Int) (v858 : Int) (v859 : List Int) (v860 : Int) (v861 : List Int) (k0 : Int → List Int → Int → List Int → Option α) : impl_natDiv_L2 N (n + 1) v857 v858 v859 v860 v861 k0 = impl_natDiv_L2r N (fun y0 y1 y2 y3 y4 => impl_natDiv_L2 N n y0 y1 y2 y3 y4 k0) k0 v857 v858 v859 v860 v861 := by rw [impl_natDiv_L2.eq]; rfl
noncomputable def impl_natDiv_L6r {α : Type} (N : Nat) (next : Int → List Int → Int → Int → Int → Int → List Int → List Int → Option α) (k0 : Int → List Int → Int → Int → Int → List Int → List Int → Option α) (v898 : Int) (v899 : List Int) (v900 : Int) (v901 : Int) (v902 : Int) (v903 : Int) (v904 : List Int) (v905 : List Int) : Option α :=
 let x906 := (decide ((65536 : Int) ≤ v902))
 bif x906 then
  let x907 := (IntKind.i64.wrap (v902 - (1 : Int)))
  let x908 := (IntKind.i64.wrap (v900 - (1 : Int)))
  bif (decide (x908 < (0 : Int))) then
   none
  else
   match v899[x908.toNat]? with
   | some x909 =>
    let x910 := IntKind.i64.wrap (v903 + x909)
    let x911 := (decide ((65536 : Int) ≤ x910))
    bif x911 then
     k0 v898 v899 v900 v901 x907 v904 v905
    else
     next v898 v899 v900 v901 x907 x910 v904 v905
   | none => none
 else
  let x912 := (IntKind.i64.wrap (v900 - (2 : Int)))
  bif (decide (x912 < (0 : Int))) then
   none
  else
   match v899[x912.toNat]? with
   | some x913 =>
    let x914 := IntKind.i64.wrap (v902 * x913)
    let x915 := (shlI .i64 v903 (16 : Int))
    let x916 := IntKind.i64.wrap (v901 + v900)
    let x917 := (IntKind.i64.wrap (x916 - (2 : Int)))
    bif (decide (x917 < (0 : Int))) then
     none
    else
     bif decide (x917.toNat < v904.length) then
      match v904[x917.toNat]? with
      | some x918 =>
       let x919 := bitI .or .i64 x915 x918
       let x920 := decide (x919 < x914)
       bif x920 then
        let x921 := (IntKind.i64.wrap (v902 - (1 : Int)))
        let x922 := (IntKind.i64.wrap (v900 - (1 : Int)))
        bif (decide (x922 < (0 : Int))) then
         none
        else
         match v899[x922.toNat]? with
         | some x923 =>
          let x924 := IntKind.i64.wrap (v903 + x923)
          let x925 := (decide ((65536 : Int) ≤ x924))
          bif x925 then
           k0 v898 v899 v900 v901 x921 v904 v905
          else
           next v898 v899 v900 v901 x921 x924 v904 v905
         | none => none
       else
        k0 v898 v899 v900 v901 v902 v904 v905
      | none => none
     else
      none
   | none => none
noncomputable def impl_natDiv_L6.b {α : Type} (N n : Nat) (v898 : Int) (v899 : List Int) (v900 : Int) (v901 : Int) (v902 : Int) (v903 : Int) (v904 : List Int) (v905 : List Int) (k0 : Int → List Int → Int → Int → Int → List Int → List Int → Option α) : Option α :=
  Nat.rec (motive := fun _ => Int → List Int → Int → Int → Int → Int → List Int → List Int → Option α) (fun _ _ _ _ _ _ _ _ => none) (fun _ next => impl_natDiv_L6r N next k0) n v898 v899 v900 v901 v902 v903 v904 v905
theorem impl_natDiv_L6.ex : ∃ f : ((α : Type) → Nat → Nat → Int → List Int → Int → Int → Int → Int → List Int → List Int → (Int → List Int → Int → Int → Int → List Int → List Int → Option α) → Option α), f = fun α => @impl_natDiv_L6.b α := ⟨_, rfl⟩
noncomputable def impl_natDiv_L6 {α : Type} : Nat → Nat → Int → List Int → Int → Int → Int → Int → List Int → List Int → (Int → List Int → Int → Int → Int → List Int → List Int → Option α) → Option α := Classical.choose impl_natDiv_L6.ex α
theorem impl_natDiv_L6.eq : @impl_natDiv_L6 = @impl_natDiv_L6.b := funext fun α => congrFun (Classical.choose_spec impl_natDiv_L6.ex) α
theorem impl_natDiv_L6.zero {α : Type} (N : Nat) (v898 : Int) (v899 : List Int) (v900 : Int) (v901 : Int) (v902 : Int) (v903 : Int) (v904 : List Int) (v905 : List Int) (k0 : Int → List Int → Int → Int → Int → List Int → List Int → Option α) : impl_natDiv_L6 N 0 v898 v899 v900 v901 v902 v903 v904 v905 k0 = none := by rw [impl_natDiv_L6.eq]; rfl
theorem impl_natDiv_L6.succ {α : Type} (N n : Nat) (v898 : Int) (v899 : List Int) (v900 : Int) (v901 : Int) (v902 : Int) (v903 : Int) (v904 : List Int) (v905 : List Int) (k0 : Int → List Int → Int → Int → Int → List Int → List Int → Option α) : impl_natDiv_L6 N (n + 1) v898 v899 v900 v901 v902 v903 v904 v905 k0 = impl_natDiv_L6r N (fun y0 y1 y2 y3 y4 y5 y6 y7 => impl_natDiv_L6 N n y0 y1 y2 y3 y4 y5 y6 y7 k0) k0 v898 v899 v900 v901 v902 v903 v904 v905 := by rw [impl_natDiv_L6.eq]; rfl
noncomputable def impl_natDiv_J34.b {α : Type} (N : Nat) (v952 : Int) (v953 : List Int) (v954 : Int) (v955 : Int) (v956 : Int) (v957 : Int) (v958 : Int) (v959 : Int) (v960 : List Int) (v961 : Int) (v962 : Int) (v963 : List Int) (v964 : List Int) (k0 : Int → List Int → Int → Int → Int → Int → Int → Int → List Int → Int → Int → List Int → List Int → Option α) : Option α :=
 let x965 := (decide (v959 < (0 : Int)))
 bif x965 then
  let x966 := IntKind.i64.wrap (0 - v959)
  let x967 := (IntKind.i64.wrap (x966 + (65536 : Int)))
  let x968 := (IntKind.i64.wrap (x967 - (1 : Int)))
  let x969 := (IntKind.i64.wrap (Int.tdiv x968 (65536 : Int)))
  let x970 := (IntKind.i64.wrap (x969 * (65536 : Int)))
  let x971 := IntKind.i64.wrap (v959 + x970)
  k0 v952 v953 v954 v955 v956 x969 v958 x971 v960 v961 v962 v963 v964
 else
  k0 v952 v953 v954 v955 v956 v957 v958 v959 v960 v961 v962 v963 v964
theorem impl_natDiv_J34.ex : ∃ f : ((α : Type) → Nat → Int → List Int → Int → Int → Int → Int → Int → Int → List Int → Int → Int → List Int → List Int → (Int → List Int → Int → Int → Int → Int → Int → Int → List Int → Int → Int → List Int → List Int → Option α) → Option α), f = fun α => @impl_natDiv_J34.b α := ⟨_, rfl⟩
noncomputable def impl_natDiv_J34 {α : Type} : Nat → Int → List Int → Int → Int → Int → Int → Int → Int → List Int → Int → Int → List Int → List Int → (Int → List Int → Int → Int → Int → Int → Int → Int → List Int → Int → Int → List Int → List Int → Option α) → Option α := Classical.choose impl_natDiv_J34.ex α
theorem impl_natDiv_J34.eq : @impl_natDiv_J34 = @impl_natDiv_J34.b := funext fun α => congrFun (Classical.choose_spec impl_natDiv_J34.ex) α
noncomputable def impl_natDiv_L8r {α : Type} (N : Nat) (next : Int → List Int → Int → Int → Int → Int → List Int → Int → Int → List Int → List Int → Option α) (k0 : Int → List Int → Int → Int → Int → Int → List Int → List Int → Option α) (v934 : Int) (v935 : List Int) (v936 : Int) (v937 : Int) (v938 : Int) (v939 : Int) (v940 : List Int) (v941 : Int) (v942 : Int) (v943 : List Int) (v944 : List Int) : Option α :=
 let x945 := decide (v942 < v941)
 bif x945 then
  bif (decide (v942 < (0 : Int))) then
   none
  else
   match v940[v942.toNat]? with
   | some x946 =>
    let x947 := IntKind.i64.wrap (v937 + v942)
    bif (decide (x947 < (0 : Int))) then
     none
    else
     bif decide (x947.toNat < v943.length) then
      match v943[x947.toNat]? with
      | some x948 =>
       let x949 := IntKind.i64.wrap (x948 - v939)
       let x950 := IntKind.i64.wrap (v938 * x946)
       let x951 := IntKind.i64.wrap (x949 - x950)
       impl_natDiv_J34 N v934 v935 v936 v937 v938 (0 : Int) v942 x951 v940 v941 v942 v943 v944
        (fun x972 x973 x974 x975 x976 x977 x978 x979 x980 x981 x982 x983 x984 =>
         let x985 := IntKind.i64.wrap (x975 + x978)
         bif (decide (x985 < (0 : Int))) then
          none
         else
          bif decide (x985.toNat < x983.length) then
           match x983[x985.toNat]? with
           | some x986 =>
            let x987 := x983.set x985.toNat x979
            let x988 := (IntKind.i64.wrap (x982 + (1 : Int)))
            next x972 x973 x974 x975 x976 x977 x980 x981 x988 x987 x984
           | none => none
          else
           none)
      | none => none
     else
      none
   | none => none
 else
  k0 v934 v935 v936 v937 v938 v939 v943 v944
noncomputable def impl_natDiv_L8.b {α : Type} (N n : Nat) (v934 : Int) (v935 : List Int) (v936 : Int) (v937 : Int) (v938 : Int) (v939 : Int) (v940 : List Int) (v941 : Int) (v942 : Int) (v943 : List Int) (v944 : List Int) (k0 : Int → List Int → Int → Int → Int → Int → List Int → List Int → Option α) : Option α :=
  Nat.rec (motive := fun _ => Int → List Int → Int → Int → Int → Int → List Int → Int → Int → List Int → List Int → Option α) (fun _ _ _ _ _ _ _ _ _ _ _ => none) (fun _ next => impl_natDiv_L8r N next k0) n v934 v935 v936 v937 v938 v939 v940 v941 v942 v943 v944
theorem impl_natDiv_L8.ex : ∃ f : ((α : Type) → Nat → Nat → Int → List Int → Int → Int → Int → Int → List Int → Int → Int → List Int → List Int → (Int → List Int → Int → Int → Int → Int → List Int → List Int → Option α) → Option α), f = fun α => @impl_natDiv_L8.b α := ⟨_, rfl⟩
noncomputable def impl_natDiv_L8 {α : Type} : Nat → Nat → Int → List Int → Int → Int → Int → Int → List Int → Int → Int → List Int → List Int → (Int → List Int → Int → Int → Int → Int → List Int → List Int → Option α) → Option α := Classical.choose impl_natDiv_L8.ex α
theorem impl_natDiv_L8.eq : @impl_natDiv_L8 = @impl_natDiv_L8.b := funext fun α => congrFun (Classical.choose_spec impl_natDiv_L8.ex) α
theorem impl_natDiv_L8.zero {α : Type} (N : Nat) (v934 : Int) (v935 : List Int) (v936 : Int) (v937 : Int) (v938 : Int) (v939 : Int) (v940 : List Int) (v941 : Int) (v942 : Int) (v943 : List Int) (v944 : List Int) (k0 : Int → List Int → Int → Int → Int → Int → List Int → List Int → Option α) : impl_natDiv_L8 N 0 v934 v935 v936 v937 v938 v939 v940 v941 v942 v943 v944 k0 = none := by rw [impl_natDiv_L8.eq]; rfl
theorem impl_natDiv_L8.succ {α : Type} (N n : Nat) (v934 : Int) (v935 : List Int) (v936 : Int) (v937 : Int) (v938 : Int) (v939 : Int) (v940 : List Int) (v941 : Int) (v942 : Int) (v943 : List Int) (v944 : List Int) (k0 : Int → List Int → Int → Int → Int → Int → List Int → List Int → Option α) : impl_natDiv_L8 N (n + 1) v934 v935 v936 v937 v938 v939 v940 v941 v942 v943 v944 k0 = impl_natDiv_L8r N (fun y0 y1 y2 y3 y4 y5 y6 y7 y8 y9 y10 => impl_natDiv_L8 N n y0 y1 y2 y3 y4 y5 y6 y7 y8 y9 y10 k0) k0 v934 v935 v936 v937 v938 v939 v940 v941 v942 v943 v944 := by rw [impl_natDiv_L8.eq]; rfl
noncomputable def impl_natDiv_L10r {α : Type} (N : Nat) (next : Int → List Int → Int → Int → Int → Int → List Int → Int → Int → List Int → List Int → Option α) (k0 : Int → List Int → Int → Int → Int → Int → List Int → List Int → Option α) (v1014 : Int) (v1015 : List Int) (v1016 : Int) (v1017 : Int) (v1018 : Int) (v1019 : Int) (v1020 : List Int) (v1021 : Int) (v1022 : Int) (v1023 : List Int) (v1024 : List Int) : Option α :=
 let x1025 := decide (v1022 < v1021)
 bif x1025 then
  bif (decide (v1022 < (0 : Int))) then
   none
  else
   match v1020[v1022.toNat]? with
   | some x1026 =>
    let x1027 := IntKind.i64.wrap (v1017 + v1022)
    bif (decide (x1027 < (0 : Int))) then
     none
    else
     bif decide (x1027.toNat < v1023.length) then
      match v1023[x1027.toNat]? with
      | some x1028 =>
       let x1029 := IntKind.i64.wrap (x1028 + x1026)
       let x1030 := IntKind.i64.wrap (x1029 + v1019)
       let x1031 := IntKind.i64.wrap (v1017 + v1022)
       let x1032 := (bitI .and .i64 x1030 (65535 : Int))
       let x1033 := (shrI .i64 x1030 (16 : Int))
       bif (decide (x1031 < (0 : Int))) then
        none
       else
        bif decide (x1031.toNat < v1023.length) then
         match v1023[x1031.toNat]? with
         | some x1034 =>
          let x1035 := v1023.set x1031.toNat x1032
          let x1036 := (IntKind.i64.wrap (v1022 + (1 : Int)))
          next v1014 v1015 v1016 v1017 v1018 x1033 v1020 v1021 x1036 x1035 v1024
         | none => none
        else
         none
      | none => none
     else
      none
   | none => none
 else
  k0 v1014 v1015 v1016 v1017 v1018 v1019 v1023 v1024
noncomputable def impl_natDiv_L10.b {α : Type} (N n : Nat) (v1014 : Int) (v1015 : List Int) (v1016 : Int) (v1017 : Int) (v1018 : Int) (v1019 : Int) (v1020 : List Int) (v1021 : Int) (v1022 : Int) (v1023 : List Int) (v1024 : List Int) (k0 : Int → List Int → Int → Int → Int → Int → List Int → List Int → Option α) : Option α :=
  Nat.rec (motive := fun _ => Int → List Int → Int → Int → Int → Int → List Int → Int → Int → List Int → List Int → Option α) (fun _ _ _ _ _ _ _ _ _ _ _ => none) (fun _ next => impl_natDiv_L10r N next k0) n v1014 v1015 v1016 v1017 v1018 v1019 v1020 v1021 v1022 v1023 v1024
theorem impl_natDiv_L10.ex : ∃ f : ((α : Type) → Nat → Nat → Int → List Int → Int → Int → Int → Int → List Int → Int → Int → List Int → List Int → (Int → List Int → Int → Int → Int → Int → List Int → List Int → Option α) → Option α), f = fun α => @impl_natDiv_L10.b α := ⟨_, rfl⟩
noncomputable def impl_natDiv_L10 {α : Type} : Nat → Nat → Int → List Int → Int → Int → Int → Int → List Int → Int → Int → List Int → List Int → (Int → List Int → Int → Int → Int → Int → List Int → List Int → Option α) → Option α := Classical.choose impl_natDiv_L10.ex α
theorem impl_natDiv_L10.eq : @impl_natDiv_L10 = @impl_natDiv_L10.b := funext fun α => congrFun (Classical.choose_spec impl_natDiv_L10.ex) α
theorem impl_natDiv_L10.zero {α : Type} (N : Nat) (v1014 : Int) (v1015 : List Int) (v1016 : Int) (v1017 : Int) (v1018 : Int) (v1019 : Int) (v1020 : List Int) (v1021 : Int) (v1022 : Int) (v1023 : List Int) (v1024 : List Int) (k0 : Int → List Int → Int → Int → Int → Int → List Int → List Int → Option α) : impl_natDiv_L10 N 0 v1014 v1015 v1016 v1017 v1018 v1019 v1020 v1021 v1022 v1023 v1024 k0 = none := by rw [impl_natDiv_L10.eq]; rfl
theorem impl_natDiv_L10.succ {α : Type} (N n : Nat) (v1014 : Int) (v1015 : List Int) (v1016 : Int) (v1017 : Int) (v1018 : Int) (v1019 : Int) (v1020 : List Int) (v1021 : Int) (v1022 : Int) (v1023 : List Int) (v1024 : List Int) (k0 : Int → List Int → Int → Int → Int → Int → List Int → List Int → Option α) : impl_natDiv_L10 N (n + 1) v1014 v1015 v1016 v1017 v1018 v1019 v1020 v1021 v1022 v1023 v1024 k0 = impl_natDiv_L10r N (fun y0 y1 y2 y3 y4 y5 y6 y7 y8 y9 y10 => impl_natDiv_L10 N n y0 y1 y2 y3 y4 y5 y6 y7 y8 y9 y10 k0) k0 v1014 v1015 v1016 v1017 v1018 v1019 v1020 v1021 v1022 v1023 v1024 := by rw [impl_natDiv_L10.eq]; rfl
noncomputable def impl_natDiv_J40.b {α : Type} (N : Nat) (v1002 : Int) (v1003 : List Int) (v1004 : Int) (v1005 : Int) (v1006 : Int) (v1007 : List Int) (v1008 : List Int) (k0 : Int → List Int → Int → Int → Int → List Int → List Int → Option α) : Option α :=
 let x1009 := IntKind.i64.wrap (v1005 + v1004)
 bif (decide (x1009 < (0 : Int))) then
  none
 else
  bif decide (x1009.toNat < v1007.length) then
   match v1007[x1009.toNat]? with
   | some x1010 =>
    let x1011 := (decide (x1010 < (0 : Int)))
    bif x1011 then
     let x1012 := (IntKind.i64.wrap (v1006 - (1 : Int)))
     let x1013 := ((v1003.length : Nat) : Int)
     impl_natDiv_L10 N N v1002 v1003 v1004 v1005 x1012 (0 : Int) v1003 x1013 (0 : Int) v1007 v1008
      (fun x1037 x1038 x1039 x1040 x1041 x1042 x1043 x1044 =>
       let x1045 := IntKind.i64.wrap (x1040 + x1039)
       bif (decide (x1045 < (0 : Int))) then
        none
       else
        bif decide (x1045.toNat < x1043.length) then
         match x1043[x1045.toNat]? with
         | some x1046 =>
          let x1047 := IntKind.i64.wrap (x1046 + x1042)
          bif (decide (x1045 < (0 : Int))) then
           none
          else
           bif decide (x1045.toNat < x1043.length) then
            match x1043[x1045.toNat]? with
            | some x1048 =>
             let x1049 := x1043.set x1045.toNat x1047
             k0 x1037 x1038 x1039 x1040 x1041 x1049 x1044
            | none => none
           else
            none
         | none => none
        else
         none)
    else
     k0 v1002 v1003 v1004 v1005 v1006 v1007 v1008
   | none => none
  else
   none
theorem impl_natDiv_J40.ex : ∃ f : ((α : Type) → Nat → Int → List Int → Int → Int → Int → List Int → List Int → (Int → List Int → Int → Int → Int → List Int → List Int → Option α) → Option α), f = fun α => @impl_natDiv_J40.b α := ⟨_, rfl⟩
noncomputable def impl_natDiv_J40 {α : Type} : Nat → Int → List Int → Int → Int → Int → List Int → List Int → (Int → List Int → Int → Int → Int → List Int → List Int → Option α) → Option α := Classical.choose impl_natDiv_J40.ex α
theorem impl_natDiv_J40.eq : @impl_natDiv_J40 = @impl_natDiv_J40.b := funext fun α => congrFun (Classical.choose_spec impl_natDiv_J40.ex) α
noncomputable def impl_natDiv_L4r {α : Type} (N : Nat) (next : Int → List Int → Int → Int → List Int → List Int → Option α) (k0 : Int → List Int → List Int → Option α) (v878 : Int) (v879 : List Int) (v880 : Int) (v881 : Int) (v882 : List Int) (v883 : List Int) : Option α :=
 let x884 := (decide ((0 : Int) ≤ v881))
 bif x884 then
  let x885 := IntKind.i64.wrap (v881 + v880)
  bif (decide (x885 < (0 : Int))) then
   none
  else
   bif decide (x885.toNat < v882.length) then
    match v882[x885.toNat]? with
    | some x886 =>
     let x887 := (shlI .i64 x886 (16 : Int))
     let x888 := IntKind.i64.wrap (v881 + v880)
     let x889 := (IntKind.i64.wrap (x888 - (1 : Int)))
     bif (decide (x889 < (0 : Int))) then
      none
     else
      bif decide (x889.toNat < v882.length) then
       match v882[x889.toNat]? with
       | some x890 =>
        let x891 := bitI .or .i64 x887 x890
        let x892 := (IntKind.i64.wrap (v880 - (1 : Int)))
        bif (decide (x892 < (0 : Int))) then
         none
        else
         match v879[x892.toNat]? with
         | some x893 =>
          bif (decide (x893 = (0 : Int))) then
           none
          else
           let x894 := IntKind.i64.wrap (Int.tdiv x891 x893)
           let x895 := (IntKind.i64.wrap (v880 - (1 : Int)))
           bif (decide (x895 < (0 : Int))) then
            none
           else
            match v879[x895.toNat]? with
            | some x896 =>
             bif (decide (x896 = (0 : Int))) then
              none
             else
              let x897 := Int.tmod x891 x896
              impl_natDiv_L6 N N v878 v879 v880 v881 x894 x897 v882 v883
               (fun x926 x927 x928 x929 x930 x931 x932 =>
                let x933 := ((x927.length : Nat) : Int)
                impl_natDiv_L8 N N x926 x927 x928 x929 x930 (0 : Int) x927 x933 (0 : Int) x931 x932
                 (fun x989 x990 x991 x992 x993 x994 x995 x996 =>
                  let x997 := IntKind.i64.wrap (x992 + x991)
                  bif (decide (x997 < (0 : Int))) then
                   none
                  else
                   bif decide (x997.toNat < x995.length) then
                    match x995[x997.toNat]? with
                    | some x998 =>
                     let x999 := IntKind.i64.wrap (x998 - x994)
                     bif (decide (x997 < (0 : Int))) then
                      none
                     else
                      bif decide (x997.toNat < x995.length) then
                       match x995[x997.toNat]? with
                       | some x1000 =>
                        let x1001 := x995.set x997.toNat x999
                        impl_natDiv_J40 N x989 x990 x991 x992 x993 x1001 x996
                         (fun x1050 x1051 x1052 x1053 x1054 x1055 x1056 =>
                          bif (decide (x1053 < (0 : Int))) then
                           none
                          else
                           bif decide (x1053.toNat < x1056.length) then
                            match x1056[x1053.toNat]? with
                            | some x1057 =>
                             let x1058 := x1056.set x1053.toNat x1054
                             let x1059 := (IntKind.i64.wrap (x1053 - (1 : Int)))
                             next x1050 x1051 x1052 x1059 x1055 x1058
                            | none => none
                           else
                            none)
                       | none => none
                      else
                       none
                    | none => none
                   else
                    none))
            | none => none
         | none => none
       | none => none
      else
       none
    | none => none
   else
    none
 else
  k0 v878 v882 v883
noncomputable def impl_natDiv_L4.b {α : Type} (N n : Nat) (v878 : Int) (v879 : List Int) (v880 : Int) (v881 : Int) (v882 : List Int) (v883 : List Int) (k0 : Int → List Int → List Int → Option α) : Option α :=
  Nat.rec (motive := fun _ => Int → List Int → Int → Int → List Int → List Int → Option α) (fun _ _ _ _ _ _ => none) (fun _ next => impl_natDiv_L4r N next k0) n v878 v879 v880 v881 v882 v883
theorem impl_natDiv_L4.ex : ∃ f : ((α : Type) → Nat → Nat → Int → List Int → Int → Int → List Int → List Int → (Int → List Int → List Int → Option α) → Option α), f = fun α => @impl_natDiv_L4.b α := ⟨_, rfl⟩
noncomputable def impl_natDiv_L4 {α : Type} : Nat → Nat → Int → List Int → Int → Int → List Int → List Int → (Int → List Int → List Int → Option α) → Option α := Classical.choose impl_natDiv_L4.ex α
theorem impl_natDiv_L4.eq : @impl_natDiv_L4 = @impl_natDiv_L4.b := funext fun α => congrFun (Classical.choose_spec impl_natDiv_L4.ex) α
theorem impl_natDiv_L4.zero {α : Type} (N : Nat) (v878 : Int) (v879 : List Int) (v880 : Int) (v881 : Int) (v882 : List Int) (v883 : List Int) (k0 : Int → List Int → List Int → Option α) : impl_natDiv_L4 N 0 v878 v879 v880 v881 v882 v883 k0 = none := by rw [impl_natDiv_L4.eq]; rfl
theorem impl_natDiv_L4.succ {α : Type} (N n : Nat) (v878 : Int) (v879 : List Int) (v880 : Int) (v881 : Int) (v882 : List Int) (v883 : List Int) (k0 : Int → List Int → List Int → Option α) : impl_natDiv_L4 N (n + 1) v878 v879 v880 v881 v882 v883 k0 = impl_natDiv_L4r N (fun y0 y1 y2 y3 y4 y5 => impl_natDiv_L4 N n y0 y1 y2 y3 y4 y5 k0) k0 v878 v879 v880 v881 v882 v883 := by rw [impl_natDiv_L4.eq]; rfl
/-- impl.natDiv -/
noncomputable def impl_natDiv.b {α : Type} (N : Nat) (a611 : List Int) (a612 : List Int) (k0 : List Int → List Int → Option α) : Option α :=
 impl_natCmp N a611 a612
  (fun x639 =>
   let x640 := (decide (x639 < (0 : Int)))
   bif x640 then
    k0 [] a611
   else
    let x641 := ((a612.length : Nat) : Int)
    let x642 := (decide (x641 = (1 : Int)))
    bif x642 then
     let x643 := ((a611.length : Nat) : Int)
     bif (decide ((0 : Int) ≤ x643)) then
      bif decide (x643 ≤ x643) then
       bif (decide (x643 ≤ ((8796093022208 : Nat) : Int))) then
        let x644 := (List.replicate x643.toNat (0 : Int))
        let x645 := ((a611.length : Nat) : Int)
        let x646 := (IntKind.i64.wrap (x645 - (1 : Int)))
        impl_natDiv_L0 N N a611 a612 (0 : Int) x646 x644
         (fun x663 x664 =>
          impl_trim N x664
           (fun x677 =>
            let x678 := [x663]
            impl_trim N x678
             (fun x679 =>
              k0 x677 x679)))
       else
        none
      else
       none
     else
      none
    else
     let x680 := ((a612.length : Nat) : Int)
     let x681 := (IntKind.i64.wrap (x680 - (1 : Int)))
     bif (decide (x681 < (0 : Int))) then
      none
     else
      match a612[x681.toNat]? with
      | some x682 =>
       let x683 := IntKind.u64.wrap x682
       math_bits_Len N x683
        (fun x712 =>
         let x713 := (IntKind.i64.wrap ((16 : Int) - x712))
         impl_natShift N a612 x713
          (fun x851 =>
           impl_natShift N a611 x713
            (fun x852 =>
             slices_Clone_int_int N x852
              (fun x853 =>
               let x854 := [(0 : Int)]
               bif decide (x853.length + x854.length ≤ 8796093022208) then
                let x855 := x853 ++ x854
                let x856 := ((x851.length : Nat) : Int)
                impl_natDiv_L2 N N a611 x713 x851 x856 x855
                 (fun x868 x869 x870 x871 =>
                  let x872 := ((x871.length : Nat) : Int)
                  let x873 := IntKind.i64.wrap (x872 - x870)
                  bif (decide ((0 : Int) ≤ x873)) then
                   bif decide (x873 ≤ x873) then
                    bif (decide (x873 ≤ ((8796093022208 : Nat) : Int))) then
                     let x874 := (List.replicate x873.toNat (0 : Int))
                     let x875 := ((x871.length : Nat) : Int)
                     let x876 := IntKind.i64.wrap (x875 - x870)
                     let x877 := (IntKind.i64.wrap (x876 - (1 : Int)))
                     impl_natDiv_L4 N N x868 x869 x870 x877 x871 x874
                      (fun x1060 x1061 x1062 =>
                       impl_trim N x1062
                        (fun x1063 =>
                         impl_trim N x1061
                          (fun x1064 =>
                           let x1065 := IntKind.i64.wrap (0 - x1060)
                           impl_natShift N x1064 x1065
                            (fun x1066 =>
                             k0 x1063 x1066))))
                    else
                     none
                   else
                    none
                  else
                   none)
               else
                none))))
      | none => none)
theorem impl_natDiv.ex : ∃ f : ((α : Type) → Nat → List Int → List Int → (List Int → List Int → Option α) → Option α), f = fun α => @impl_natDiv.b α := ⟨_, rfl⟩
noncomputable def impl_natDiv {α : Type} : Nat → List Int → List Int → (List Int → List Int → Option α) → Option α := Classical.choose impl_natDiv.ex α
theorem impl_natDiv.eq : @impl_natDiv = @impl_natDiv.b := funext fun α => congrFun (Classical.choose_spec impl_natDiv.ex) α

noncomputable def impl_natGcd_L0r {α : Type} (N : Nat) (next : List Int → List Int → Option α) (k0 : List Int → Option α) (v538 : List Int) (v539 : List Int) : Option α :=
 let x540 := ((v539.length : Nat) : Int)
 let x541 := (decide ((0 : Int) < x540))
 bif x541 then
  impl_natDiv N v538 v539
   (fun _ x1068 =>
    next v539 x1068)
 else
  k0 v538
noncomputable def impl_natGcd_L0.b {α : Type} (N n : Nat) (v538 : List Int) (v539 : List Int) (k0 : List Int → Option α) : Option α :=
  Nat.rec (motive := fun _ => List Int → List Int → Option α) (fun _ _ => none) (fun _ next => impl_natGcd_L0r N next k0) n v538 v539
theorem impl_natGcd_L0.ex : ∃ f : ((α : Type) → Nat → Nat → List Int → List Int → (List Int → Option α) → Option α), f = fun α => @impl_natGcd_L0.b α := ⟨_, rfl⟩
noncomputable def impl_natGcd_L0 {α : Type} : Nat → Nat → List Int → List Int → (List Int → Option α) → Option α := Classical.choose impl_natGcd_L0.ex α
theorem impl_natGcd_L0.eq : @impl_natGcd_L0 = @impl_natGcd_L0.b := funext fun α => congrFun (Classical.choose_spec impl_natGcd_L0.ex) α
theorem impl_natGcd_L0.zero {α : Type} (N : Nat) (v538 : List Int) (v539 : List Int) (k0 : List Int → Option α) : impl_natGcd_L0 N 0 v538 v539 k0 = none := by rw [impl_natGcd_L0.eq]; rfl
theorem impl_natGcd_L0.succ {α : Type} (N n : Nat) (v538 : List Int) (v539 : List Int) (k0 : List Int → Option α) : impl_natGcd_L0 N (n + 1) v538 v539 k0 = impl_natGcd_L0r N (fun y0 y1 => impl_natGcd_L0 N n y0 y1 k0) k0 v538 v539 := by rw [impl_natGcd_L0.eq]; rfl
/-- impl.natGcd -/
noncomputable def impl_natGcd.b {α : Type} (N : Nat) (a536 : List Int) (a537 : List Int) (k0 : List Int → Option α) : Option α :=
 impl_natGcd_L0 N N a536 a537
  (fun x1069 =>
   k0 x1069)
theorem impl_natGcd.ex : ∃ f : ((α : Type) → Nat → List Int → List Int → (List Int → Option α) → Option α), f = fun α => @impl_natGcd.b α := ⟨_, rfl⟩
noncomputable def impl_natGcd {α : Type} : Nat → List Int → List Int → (List Int → Option α) → Option α := Classical.choose impl_natGcd.ex α
theorem impl_natGcd.eq : @impl_natGcd = @impl_natGcd.b := funext fun α => congrFun (Classical.choose_spec impl_natGcd.ex) α

/-- impl.FracOk -/
noncomputable def impl_FracOk.b {α : Type} (N : Nat) (a476 : Bool × (List Int) × (List Int) × Unit) (k0 : Bool → Option α) : Option α :=
 let x477 := [a476.2.1, a476.2.2.1]
 impl_nats N x477
  (fun x531 =>
   bif x531 then
    let x532 := ((a476.2.2.1.length : Nat) : Int)
    let x533 := (decide ((0 : Int) < x532))
    bif x533 then
     let x534 := ((a476.2.1.length : Nat) : Int)
     let x535 := (decide ((0 : Int) < x534))
     bif x535 then
      impl_natGcd N a476.2.1 a476.2.2.1
       (fun x1070 =>
        let x1071 := [(1 : Int)]
        impl_natCmp N x1070 x1071
         (fun x1072 =>
          let x1073 := (decide (x1072 = (0 : Int)))
          k0 x1073))
     else
      let x1074 := !a476.1
      bif x1074 then
       impl_natGcd N a476.2.1 a476.2.2.1
        (fun x1075 =>
         let x1076 := [(1 : Int)]
         impl_natCmp N x1075 x1076
          (fun x1077 =>
           let x1078 := (decide (x1077 = (0 : Int)))
           k0 x1078))
      else
       k0 false
    else
     k0 false
   else
    k0 false)
theorem impl_FracOk.ex : ∃ f : ((α : Type) → Nat → (Bool × (List Int) × (List Int) × Unit) → (Bool → Option α) → Option α), f = fun α => @impl_FracOk.b α := ⟨_, rfl⟩
noncomputable def impl_FracOk {α : Type} : Nat → (Bool × (List Int) × (List Int) × Unit) → (Bool → Option α) → Option α := Classical.choose impl_FracOk.ex α
theorem impl_FracOk.eq : @impl_FracOk = @impl_FracOk.b := funext fun α => congrFun (Classical.choose_spec impl_FracOk.ex) α

-- prim strconv_Itoa
-- prim strings_Repeat
noncomputable def impl_natText_J7.b {α : Type} (N : Nat) (v1091 : ByteArray) (v1092 : List Int) (v1093 : List Int) (v1094 : Int) (k0 : ByteArray → List Int → Int → Option α) : Option α :=
 let x1095 := ((v1093.length : Nat) : Int)
 let x1096 := (decide ((0 : Int) < x1095))
 bif x1096 then
  match v1093[0]? with
  | some x1097 =>
   k0 v1091 v1092 x1097
  | none => none
 else
  k0 v1091 v1092 v1094
theorem impl_natText_J7.ex : ∃ f : ((α : Type) → Nat → ByteArray → List Int → List Int → Int → (ByteArray → List Int → Int → Option α) → Option α), f = fun α => @impl_natText_J7.b α := ⟨_, rfl⟩
noncomputable def impl_natText_J7 {α : Type} : Nat → ByteArray → List Int → List Int → Int → (ByteArray → List Int → Int → Option α) → Option α := Classical.choose impl_natText_J7.ex α
theorem impl_natText_J7.eq : @impl_natText_J7 = @impl_natText_J7.b := funext fun α => congrFun (Classical.choose_spec impl_natText_J7.ex) α
noncomputable def impl_natText_J10.b {α : Type} (N : Nat) (v1102 : ByteArray) (v1103 : List Int) (v1104 : ByteArray) (k0 : ByteArray → List Int → ByteArray → Option α) : Option α :=
 let x1105 := ((v1103.length : Nat) : Int)
 let x1106 := (decide ((0 : Int) < x1105))
 bif x1106 then
  let x1107 := ((v1104.size : Nat) : Int)
  let x1108 := (IntKind.i64.wrap ((4 : Int) - x1107))
  strings_Repeat N (⟨#[48]⟩ : ByteArray) x1108
   (fun x1109 =>
    bif decide (x1109.size + v1104.size ≤ 9223372036854775807) then
     let x1110 := x1109 ++ v1104
     k0 v1102 v1103 x1110
    else
     none)
 else
  k0 v1102 v1103 v1104
theorem impl_natText_J10.ex : ∃ f : ((α : Type) → Nat → ByteArray → List Int → ByteArray → (ByteArray → List Int → ByteArray → Option α) → Option α), f = fun α => @impl_natText_J10.b α := ⟨_, rfl⟩
noncomputable def impl_natText_J10 {α : Type} : Nat → ByteArray → List Int → ByteArray → (ByteArray → List Int → ByteArray → Option α) → Option α := Classical.choose impl_natText_J10.ex α
theorem impl_natText_J10.eq : @impl_natText_J10 = @impl_natText_J10.b := funext fun α => congrFun (Classical.choose_spec impl_natText_J10.ex) α
noncomputable def impl_natText_L0r {α : Type} (N : Nat) (next : List Int → ByteArray → Option α) (k0 : ByteArray → Option α) (v1084 : List Int) (v1085 : ByteArray) : Option α :=
 let x1086 := ((v1084.length : Nat) : Int)
 let x1087 := (decide ((0 : Int) < x1086))
 bif x1087 then
  let x1088 := [(10000 : Int)]
  impl_natDiv N v1084 x1088
   (fun x1089 x1090 =>
    impl_natText_J7 N v1085 x1089 x1090 (0 : Int)
     (fun x1098 x1099 x1100 =>
      strconv_Itoa N x1100
       (fun x1101 =>
        impl_natText_J10 N x1098 x1099 x1101
         (fun x1111 x1112 x1113 =>
          bif decide (x1113.size + x1111.size ≤ 9223372036854775807) then
           let x1114 := x1113 ++ x1111
           next x1112 x1114
          else
           none))))
 else
  k0 v1085
noncomputable def impl_natText_L0.b {α : Type} (N n : Nat) (v1084 : List Int) (v1085 : ByteArray) (k0 : ByteArray → Option α) : Option α :=
  Nat.rec (motive := fun _ => List Int → ByteArray → Option α) (fun _ _ => none) (fun _ next => impl_natText_L0r N next k0) n v1084 v1085
theorem impl_natText_L0.ex : ∃ f : ((α : Type) → Nat → Nat → List Int → ByteArray → (ByteArray → Option α) → Option α), f = fun α => @impl_natText_L0.b α := ⟨_, rfl⟩
noncomputable def impl_natText_L0 {α : Type} : Nat → Nat → List Int → ByteArray → (ByteArray → Option α) → Option α := Classical.choose impl_natText_L0.ex α
theorem impl_natText_L0.eq : @impl_natText_L0 = @impl_natText_L0.b := funext fun α => congrFun (Classical.choose_spec impl_natText_L0.ex) α
theorem impl_natText_L0.zero {α : Type} (N : Nat) (v1084 : List Int) (v1085 : ByteArray) (k0 : ByteArray → Option α) : impl_natText_L0 N 0 v1084 v1085 k0 = none := by rw [impl_natText_L0.eq]; rfl
theorem impl_natText_L0.succ {α : Type} (N n : Nat) (v1084 : List Int) (v1085 : ByteArray) (k0 : ByteArray → Option α) : impl_natText_L0 N (n + 1) v1084 v1085 k0 = impl_natText_L0r N (fun y0 y1 => impl_natText_L0 N n y0 y1 k0) k0 v1084 v1085 := by rw [impl_natText_L0.eq]; rfl
/-- impl.natText -/
noncomputable def impl_natText.b {α : Type} (N : Nat) (a1081 : List Int) (k0 : ByteArray → Option α) : Option α :=
 let x1082 := ((a1081.length : Nat) : Int)
 let x1083 := (decide (x1082 = (0 : Int)))
 bif x1083 then
  k0 (⟨#[48]⟩ : ByteArray)
 else
  impl_natText_L0 N N a1081 ByteArray.empty
   (fun x1115 =>
    k0 x1115)
theorem impl_natText.ex : ∃ f : ((α : Type) → Nat → List Int → (ByteArray → Option α) → Option α), f = fun α => @impl_natText.b α := ⟨_, rfl⟩
noncomputable def impl_natText {α : Type} : Nat → List Int → (ByteArray → Option α) → Option α := Classical.choose impl_natText.ex α
theorem impl_natText.eq : @impl_natText = @impl_natText.b := funext fun α => congrFun (Classical.choose_spec impl_natText.ex) α

noncomputable def impl_FracText_J4.b {α : Type} (N : Nat) (v1117 : ByteArray) (v1118 : Bool × (List Int) × (List Int) × Unit) (k0 : ByteArray → (Bool × (List Int) × (List Int) × Unit) → Option α) : Option α :=
 bif v1118.1 then
  bif (decide ((⟨#[45]⟩ : ByteArray).size + v1117.size ≤ 9223372036854775807)) then
   let x1119 := ((⟨#[45]⟩ : ByteArray) ++ v1117)
   k0 x1119 v1118
  else
   none
 else
  k0 v1117 v1118
theorem impl_FracText_J4.ex : ∃ f : ((α : Type) → Nat → ByteArray → (Bool × (List Int) × (List Int) × Unit) → (ByteArray → (Bool × (List Int) × (List Int) × Unit) → Option α) → Option α), f = fun α => @impl_FracText_J4.b α := ⟨_, rfl⟩
noncomputable def impl_FracText_J4 {α : Type} : Nat → ByteArray → (Bool × (List Int) × (List Int) × Unit) → (ByteArray → (Bool × (List Int) × (List Int) × Unit) → Option α) → Option α := Classical.choose impl_FracText_J4.ex α
theorem impl_FracText_J4.eq : @impl_FracText_J4 = @impl_FracText_J4.b := funext fun α => congrFun (Classical.choose_spec impl_FracText_J4.ex) α
noncomputable def impl_FracText_J6.b {α : Type} (N : Nat) (v1122 : ByteArray) (v1123 : Bool × (List Int) × (List Int) × Unit) (k0 : ByteArray → Option α) : Option α :=
 let x1124 := [(1 : Int)]
 impl_natCmp N v1123.2.2.1 x1124
  (fun x1125 =>
   let x1126 := (!(decide (x1125 = (0 : Int))))
   bif x1126 then
    impl_natText N v1123.2.2.1
     (fun x1127 =>
      bif (decide ((⟨#[47]⟩ : ByteArray).size + x1127.size ≤ 9223372036854775807)) then
       let x1128 := ((⟨#[47]⟩ : ByteArray) ++ x1127)
       bif decide (v1122.size + x1128.size ≤ 9223372036854775807) then
        let x1129 := v1122 ++ x1128
        k0 x1129
       else
        none
      else
       none)
   else
    k0 v1122)
theorem impl_FracText_J6.ex : ∃ f : ((α : Type) → Nat → ByteArray → (Bool × (List Int) × (List Int) × Unit) → (ByteArray → Option α) → Option α), f = fun α => @impl_FracText_J6.b α := ⟨_, rfl⟩
noncomputable def impl_FracText_J6 {α : Type} : Nat → ByteArray → (Bool × (List Int) × (List Int) × Unit) → (ByteArray → Option α) → Option α := Classical.choose impl_FracText_J6.ex α
theorem impl_FracText_J6.eq : @impl_FracText_J6 = @impl_FracText_J6.b := funext fun α => congrFun (Classical.choose_spec impl_FracText_J6.ex) α
/-- impl.FracText -/
noncomputable def impl_FracText.b {α : Type} (N : Nat) (a475 : Bool × (List Int) × (List Int) × Unit) (k0 : ByteArray → Option α) : Option α :=
 impl_FracOk N a475
  (fun x1079 =>
   let x1080 := !x1079
   bif x1080 then
    k0 ByteArray.empty
   else
    impl_natText N a475.2.1
     (fun x1116 =>
      impl_FracText_J4 N x1116 a475
       (fun x1120 x1121 =>
        impl_FracText_J6 N x1120 x1121
         (fun x1130 =>
          k0 x1130))))
theorem impl_FracText.ex : ∃ f : ((α : Type) → Nat → (Bool × (List Int) × (List Int) × Unit) → (ByteArray → Option α) → Option α), f = fun α => @impl_FracText.b α := ⟨_, rfl⟩
noncomputable def impl_FracText {α : Type} : Nat → (Bool × (List Int) × (List Int) × Unit) → (ByteArray → Option α) → Option α := Classical.choose impl_FracText.ex α
theorem impl_FracText.eq : @impl_FracText = @impl_FracText.b := funext fun α => congrFun (Classical.choose_spec impl_FracText.ex) α

noncomputable def laws_eqIntS_L0r {α : Type} (N : Nat) (next : List Int → List Int → Int → Option α) (k0 : Bool → Option α) (k1 : Option α) (v1144 : List Int) (v1145 : List Int) (v1146 : Int) : Option α :=
 let x1147 := ((v1144.length : Nat) : Int)
 let x1148 := decide (v1146 < x1147)
 bif x1148 then
  bif (decide (v1146 < (0 : Int))) then
   none
  else
   match v1144[v1146.toNat]? with
   | some x1149 =>
    bif (decide (v1146 < (0 : Int))) then
     none
    else
     match v1145[v1146.toNat]? with
     | some x1150 =>
      let x1151 := !(decide (x1149 = x1150))
      bif x1151 then
       k0 false
      else
       let x1152 := (IntKind.i64.wrap (v1146 + (1 : Int)))
       next v1144 v1145 x1152
     | none => none
   | none => none
 else
  k1
noncomputable def laws_eqIntS_L0.b {α : Type} (N n : Nat) (v1144 : List Int) (v1145 : List Int) (v1146 : Int) (k0 : Bool → Option α) (k1 : Option α) : Option α :=
  Nat.rec (motive := fun _ => List Int → List Int → Int → Option α) (fun _ _ _ => none) (fun _ next => laws_eqIntS_L0r N next k0 k1) n v1144 v1145 v1146
theorem laws_eqIntS_L0.ex : ∃ f : ((α : Type) → Nat → Nat → List Int → List Int → Int → (Bool → Option α) → (Option α) → Option α), f = fun α => @laws_eqIntS_L0.b α := ⟨_, rfl⟩
noncomputable def laws_eqIntS_L0 {α : Type} : Nat → Nat → List Int → List Int → Int → (Bool → Option α) → (Option α) → Option α := Classical.choose laws_eqIntS_L0.ex α
theorem laws_eqIntS_L0.eq : @laws_eqIntS_L0 = @laws_eqIntS_L0.b := funext fun α => congrFun (Classical.choose_spec laws_eqIntS_L0.ex) α
theorem laws_eqIntS_L0.zero {α : Type} (N : Nat) (v1144 : List Int) (v1145 : List Int) (v1146 : Int) (k0 : Bool → Option α) (k1 : Option α) : laws_eqIntS_L0 N 0 v1144 v1145 v1146 k0 k1 = none := by rw [laws_eqIntS_L0.eq]; rfl
theorem laws_eqIntS_L0.succ {α : Type} (N n : Nat) (v1144 : List Int) (v1145 : List Int) (v1146 : Int) (k0 : Bool → Option α) (k1 : Option α) : laws_eqIntS_L0 N (n + 1) v1144 v1145 v1146 k0 k1 = laws_eqIntS_L0r N (fun y0 y1 y2 => laws_eqIntS_L0 N n y0 y1 y2 k0 k1) k0 k1 v1144 v1145 v1146 := by rw [laws_eqIntS_L0.eq]; rfl
/-- laws.eqIntS -/
noncomputable def laws_eqIntS.b {α : Type} (N : Nat) (a1139 : List Int) (a1140 : List Int) (k0 : Bool → Option α) : Option α :=
 let x1141 := ((a1139.length : Nat) : Int)
 let x1142 := ((a1140.length : Nat) : Int)
 let x1143 := !(decide (x1141 = x1142))
 bif x1143 then
  k0 false
 else
  laws_eqIntS_L0 N N a1139 a1140 (0 : Int)
   (fun x1153 =>
    k0 x1153)
   (
    k0 true)
theorem laws_eqIntS.ex : ∃ f : ((α : Type) → Nat → List Int → List Int → (Bool → Option α) → Option α), f = fun α => @laws_eqIntS.b α := ⟨_, rfl⟩
noncomputable def laws_eqIntS {α : Type} : Nat → List Int → List Int → (Bool → Option α) → Option α := Classical.choose laws_eqIntS.ex α
theorem laws_eqIntS.eq : @laws_eqIntS = @laws_eqIntS.b := funext fun α => congrFun (Classical.choose_spec laws_eqIntS.ex) α

/-- laws.eqFrac -/
noncomputable def laws_eqFrac.b {α : Type} (N : Nat) (a1136 : Bool × (List Int) × (List Int) × Unit) (a1137 : Bool × (List Int) × (List Int) × Unit) (k0 : Bool → Option α) : Option α :=
 let x1138 := !(a1136.1 == a1137.1)
 bif x1138 then
  k0 false
 else
  laws_eqIntS N a1136.2.1 a1137.2.1
   (fun x1154 =>
    let x1155 := !x1154
    bif x1155 then
     k0 false
    else
     laws_eqIntS N a1136.2.2.1 a1137.2.2.1
      (fun x1156 =>
       let x1157 := !x1156
       bif x1157 then
        k0 false
       else
        k0 true))
theorem laws_eqFrac.ex : ∃ f : ((α : Type) → Nat → (Bool × (List Int) × (List Int) × Unit) → (Bool × (List Int) × (List Int) × Unit) → (Bool → Option α) → Option α), f = fun α => @laws_eqFrac.b α := ⟨_, rfl⟩
noncomputable def laws_eqFrac {α : Type} : Nat → (Bool × (List Int) × (List Int) × Unit) → (Bool × (List Int) × (List Int) × Unit) → (Bool → Option α) → Option α := Classical.choose laws_eqFrac.ex α
theorem laws_eqFrac.eq : @laws_eqFrac = @laws_eqFrac.b := funext fun α => congrFun (Classical.choose_spec laws_eqFrac.ex) α

/-- laws.FnExactFracText -/
noncomputable def laws_FnExactFracText.b {α : Type} (N : Nat) (a1 : Bool × (List Int) × (List Int) × Unit) (k0 : Bool → Option α) : Option α :=
 laws_szFrac N a1 (1048576 : Int)
  (fun x13 =>
   let x14 := (decide (x13 < (0 : Int)))
   bif x14 then
    k0 true
   else
    laws_toFrac N a1
     (fun x31 x32 x33 =>
      spec_FracText N (x31, (x32, (x33, ())))
       (fun x471 =>
        laws_toFrac N a1
         (fun x472 x473 x474 =>
          impl_FracText N (x472, (x473, (x474, ())))
           (fun x1131 =>
            let x1132 := !eqS x1131 x471
            bif x1132 then
             k0 false
            else
             laws_toFrac N a1
              (fun x1133 x1134 x1135 =>
               laws_eqFrac N (x472, (x473, (x474, ()))) (x1133, (x1134, (x1135, ())))
                (fun x1158 =>
                 let x1159 := !x1158
                 bif x1159 then
                  k0 false
                 else
                  k0 true)))))))
theorem laws_FnExactFracText.ex : ∃ f : ((α : Type) → Nat → (Bool × (List Int) × (List Int) × Unit) → (Bool → Option α) → Option α), f = fun α => @laws_FnExactFracText.b α := ⟨_, rfl⟩
noncomputable def laws_FnExactFracText {α : Type} : Nat → (Bool × (List Int) × (List Int) × Unit) → (Bool → Option α) → Option α := Classical.choose laws_FnExactFracText.ex α
theorem laws_FnExactFracText.eq : @laws_FnExactFracText = @laws_FnExactFracText.b := funext fun α => congrFun (Classical.choose_spec laws_FnExactFracText.ex) α

end
end Go.Proofs.YthjjaddhcdekjaaDoorAm
