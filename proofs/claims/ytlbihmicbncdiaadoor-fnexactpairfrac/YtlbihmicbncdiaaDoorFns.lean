/-
  The functions that the program computes, as the abstract machine tells them. Printed by amp.py.
-/
import Derived.Test.YtlbihmicbncdiaaDoorAmc
namespace Go.Proofs.YtlbihmicbncdiaaDoorAm
open Go
noncomputable section
set_option linter.unusedVariables false
set_option linter.unusedSimpArgs false

/-- laws.szIntS -/
noncomputable def laws_szIntS.b {α : Type} (N : Nat) (a5 : List Int) (a6 : Int) (k0 : Int → Option α) : Option α :=
 let x7 := ((a5.length : Nat) : Int)
 let x8 := IntKind.i64.wrap (a6 - x7)
 let x9 := (decide (x8 < (0 : Int)))
 bif x9 then
  k0 (-1 : Int)
 else
  k0 x8
theorem laws_szIntS.ex : ∃ f : ((α : Type) → Nat → List Int → Int → (Int → Option α) → Option α), f = fun α => @laws_szIntS.b α := ⟨_, rfl⟩
noncomputable def laws_szIntS {α : Type} : Nat → List Int → Int → (Int → Option α) → Option α := Classical.choose laws_szIntS.ex α
theorem laws_szIntS.eq : @laws_szIntS = @laws_szIntS.b := funext fun α => congrFun (Classical.choose_spec laws_szIntS.ex) α

/-- laws.szFrac -/
noncomputable def laws_szFrac.b {α : Type} (N : Nat) (a3 : Bool × (List Int) × (List Int) × Unit) (a4 : Int) (k0 : Int → Option α) : Option α :=
 laws_szIntS N a3.2.1 a4
  (fun x10 =>
   let x11 := (decide (x10 < (0 : Int)))
   bif x11 then
    k0 (-1 : Int)
   else
    laws_szIntS N a3.2.2.1 x10
     (fun x12 =>
      let x13 := (decide (x12 < (0 : Int)))
      bif x13 then
       k0 (-1 : Int)
      else
       k0 x12))
theorem laws_szFrac.ex : ∃ f : ((α : Type) → Nat → (Bool × (List Int) × (List Int) × Unit) → Int → (Int → Option α) → Option α), f = fun α => @laws_szFrac.b α := ⟨_, rfl⟩
noncomputable def laws_szFrac {α : Type} : Nat → (Bool × (List Int) × (List Int) × Unit) → Int → (Int → Option α) → Option α := Classical.choose laws_szFrac.ex α
theorem laws_szFrac.eq : @laws_szFrac = @laws_szFrac.b := funext fun α => congrFun (Classical.choose_spec laws_szFrac.ex) α

noncomputable def laws_toIntS_L0r {α : Type} (N : Nat) (next : List Int → Int → List Int → Option α) (k0 : List Int → Option α) (v20 : List Int) (v21 : Int) (v22 : List Int) : Option α :=
 let x23 := ((v20.length : Nat) : Int)
 let x24 := decide (v21 < x23)
 bif x24 then
  bif (decide (v21 < (0 : Int))) then
   none
  else
   match v20[v21.toNat]? with
   | some x25 =>
    bif (decide (v21 < (0 : Int))) then
     none
    else
     bif decide (v21.toNat < v22.length) then
      match v22[v21.toNat]? with
      | some x26 =>
       let x27 := v22.set v21.toNat x25
       let x28 := (IntKind.i64.wrap (v21 + (1 : Int)))
       next v20 x28 x27
      | none => none
     else
      none
   | none => none
 else
  k0 v22
noncomputable def laws_toIntS_L0.b {α : Type} (N n : Nat) (v20 : List Int) (v21 : Int) (v22 : List Int) (k0 : List Int → Option α) : Option α :=
  Nat.rec (motive := fun _ => List Int → Int → List Int → Option α) (fun _ _ _ => none) (fun _ next => laws_toIntS_L0r N next k0) n v20 v21 v22
theorem laws_toIntS_L0.ex : ∃ f : ((α : Type) → Nat → Nat → List Int → Int → List Int → (List Int → Option α) → Option α), f = fun α => @laws_toIntS_L0.b α := ⟨_, rfl⟩
noncomputable def laws_toIntS_L0 {α : Type} : Nat → Nat → List Int → Int → List Int → (List Int → Option α) → Option α := Classical.choose laws_toIntS_L0.ex α
theorem laws_toIntS_L0.eq : @laws_toIntS_L0 = @laws_toIntS_L0.b := funext fun α => congrFun (Classical.choose_spec laws_toIntS_L0.ex) α
theorem laws_toIntS_L0.zero {α : Type} (N : Nat) (v20 : List Int) (v21 : Int) (v22 : List Int) (k0 : List Int → Option α) : laws_toIntS_L0 N 0 v20 v21 v22 k0 = none := by rw [laws_toIntS_L0.eq]; rfl
theorem laws_toIntS_L0.succ {α : Type} (N n : Nat) (v20 : List Int) (v21 : Int) (v22 : List Int) (k0 : List Int → Option α) : laws_toIntS_L0 N (n + 1) v20 v21 v22 k0 = laws_toIntS_L0r N (fun y0 y1 y2 => laws_toIntS_L0 N n y0 y1 y2 k0) k0 v20 v21 v22 := by rw [laws_toIntS_L0.eq]; rfl
/-- laws.toIntS -/
noncomputable def laws_toIntS.b {α : Type} (N : Nat) (a17 : List Int) (k0 : List Int → Option α) : Option α :=
 let x18 := ((a17.length : Nat) : Int)
 bif (decide ((0 : Int) ≤ x18)) then
  bif decide (x18 ≤ x18) then
   bif (decide (x18 ≤ ((8796093022208 : Nat) : Int))) then
    let x19 := (List.replicate x18.toNat (0 : Int))
    laws_toIntS_L0 N N a17 (0 : Int) x19
     (fun x29 =>
      k0 x29)
   else
    none
  else
   none
 else
  none
theorem laws_toIntS.ex : ∃ f : ((α : Type) → Nat → List Int → (List Int → Option α) → Option α), f = fun α => @laws_toIntS.b α := ⟨_, rfl⟩
noncomputable def laws_toIntS {α : Type} : Nat → List Int → (List Int → Option α) → Option α := Classical.choose laws_toIntS.ex α
theorem laws_toIntS.eq : @laws_toIntS = @laws_toIntS.b := funext fun α => congrFun (Classical.choose_spec laws_toIntS.ex) α

/-- laws.toFrac -/
noncomputable def laws_toFrac.b {α : Type} (N : Nat) (a16 : Bool × (List Int) × (List Int) × Unit) (k0 : Bool → List Int → List Int → Option α) : Option α :=
 laws_toIntS N a16.2.1
  (fun x30 =>
   laws_toIntS N a16.2.2.1
    (fun x31 =>
     k0 a16.1 x30 x31))
theorem laws_toFrac.ex : ∃ f : ((α : Type) → Nat → (Bool × (List Int) × (List Int) × Unit) → (Bool → List Int → List Int → Option α) → Option α), f = fun α => @laws_toFrac.b α := ⟨_, rfl⟩
noncomputable def laws_toFrac {α : Type} : Nat → (Bool × (List Int) × (List Int) × Unit) → (Bool → List Int → List Int → Option α) → Option α := Classical.choose laws_toFrac.ex α
theorem laws_toFrac.eq : @laws_toFrac = @laws_toFrac.b := funext fun α => congrFun (Classical.choose_spec laws_toFrac.ex) α

/-- spec.l1Width -/
noncomputable def spec_l1Width.b {α : Type} (N : Nat) (a39 : Int) (k0 : Bool → Option α) : Option α :=
 let x40 := (decide (a39 = (32 : Int)))
 bif x40 then
  k0 true
 else
  let x41 := (decide (a39 = (64 : Int)))
  k0 x41
theorem spec_l1Width.ex : ∃ f : ((α : Type) → Nat → Int → (Bool → Option α) → Option α), f = fun α => @spec_l1Width.b α := ⟨_, rfl⟩
noncomputable def spec_l1Width {α : Type} : Nat → Int → (Bool → Option α) → Option α := Classical.choose spec_l1Width.ex α
theorem spec_l1Width.eq : @spec_l1Width = @spec_l1Width.b := funext fun α => congrFun (Classical.choose_spec spec_l1Width.ex) α

noncomputable def spec_NatOk_L0r {α : Type} (N : Nat) (next : List Int → Int → Option α) (k0 : Bool → Option α) (k1 : List Int → Option α) (v48 : List Int) (v49 : Int) : Option α :=
 let x50 := ((v48.length : Nat) : Int)
 let x51 := decide (v49 < x50)
 bif x51 then
  bif (decide (v49 < (0 : Int))) then
   none
  else
   match v48[v49.toNat]? with
   | some x52 =>
    let x53 := (decide (x52 < (0 : Int)))
    bif x53 then
     k0 false
    else
     bif (decide (v49 < (0 : Int))) then
      none
     else
      match v48[v49.toNat]? with
      | some x54 =>
       let x55 := (decide ((65536 : Int) ≤ x54))
       bif x55 then
        k0 false
       else
        let x56 := (IntKind.i64.wrap (v49 + (1 : Int)))
        next v48 x56
      | none => none
   | none => none
 else
  k1 v48
noncomputable def spec_NatOk_L0.b {α : Type} (N n : Nat) (v48 : List Int) (v49 : Int) (k0 : Bool → Option α) (k1 : List Int → Option α) : Option α :=
  Nat.rec (motive := fun _ => List Int → Int → Option α) (fun _ _ => none) (fun _ next => spec_NatOk_L0r N next k0 k1) n v48 v49
theorem spec_NatOk_L0.ex : ∃ f : ((α : Type) → Nat → Nat → List Int → Int → (Bool → Option α) → (List Int → Option α) → Option α), f = fun α => @spec_NatOk_L0.b α := ⟨_, rfl⟩
noncomputable def spec_NatOk_L0 {α : Type} : Nat → Nat → List Int → Int → (Bool → Option α) → (List Int → Option α) → Option α := Classical.choose spec_NatOk_L0.ex α
theorem spec_NatOk_L0.eq : @spec_NatOk_L0 = @spec_NatOk_L0.b := funext fun α => congrFun (Classical.choose_spec spec_NatOk_L0.ex) α
theorem spec_NatOk_L0.zero {α : Type} (N : Nat) (v48 : List Int) (v49 : Int) (k0 : Bool → Option α) (k1 : List Int → Option α) : spec_NatOk_L0 N 0 v48 v49 k0 k1 = none := by rw [spec_NatOk_L0.eq]; rfl
theorem spec_NatOk_L0.succ {α : Type} (N n : Nat) (v48 : List Int) (v49 : Int) (k0 : Bool → Option α) (k1 : List Int → Option α) : spec_NatOk_L0 N (n + 1) v48 v49 k0 k1 = spec_NatOk_L0r N (fun y0 y1 => spec_NatOk_L0 N n y0 y1 k0 k1) k0 k1 v48 v49 := by rw [spec_NatOk_L0.eq]; rfl
/-- spec.NatOk -/
noncomputable def spec_NatOk.b {α : Type} (N : Nat) (a45 : List Int) (k0 : Bool → Option α) : Option α :=
 let x46 := ((a45.length : Nat) : Int)
 let x47 := (decide ((256 : Int) < x46))
 bif x47 then
  k0 false
 else
  spec_NatOk_L0 N N a45 (0 : Int)
   (fun x57 =>
    k0 x57)
   (fun x58 =>
    let x59 := ((x58.length : Nat) : Int)
    let x60 := (decide (x59 = (0 : Int)))
    bif x60 then
     k0 true
    else
     let x61 := ((x58.length : Nat) : Int)
     let x62 := (IntKind.i64.wrap (x61 - (1 : Int)))
     bif (decide (x62 < (0 : Int))) then
      none
     else
      match x58[x62.toNat]? with
      | some x63 =>
       let x64 := (!(decide (x63 = (0 : Int))))
       k0 x64
      | none => none)
theorem spec_NatOk.ex : ∃ f : ((α : Type) → Nat → List Int → (Bool → Option α) → Option α), f = fun α => @spec_NatOk.b α := ⟨_, rfl⟩
noncomputable def spec_NatOk {α : Type} : Nat → List Int → (Bool → Option α) → Option α := Classical.choose spec_NatOk.ex α
theorem spec_NatOk.eq : @spec_NatOk = @spec_NatOk.b := funext fun α => congrFun (Classical.choose_spec spec_NatOk.ex) α

noncomputable def spec_l5Trim_L0r {α : Type} (N : Nat) (next : List Int → Int → Option α) (k0 : List Int → Int → Option α) (v77 : List Int) (v78 : Int) : Option α :=
 let x79 := (decide ((0 : Int) < v78))
 bif x79 then
  let x80 := (IntKind.i64.wrap (v78 - (1 : Int)))
  bif (decide (x80 < (0 : Int))) then
   none
  else
   match v77[x80.toNat]? with
   | some x81 =>
    let x82 := (decide (x81 = (0 : Int)))
    bif x82 then
     let x83 := (IntKind.i64.wrap (v78 - (1 : Int)))
     next v77 x83
    else
     k0 v77 v78
   | none => none
 else
  k0 v77 v78
noncomputable def spec_l5Trim_L0.b {α : Type} (N n : Nat) (v77 : List Int) (v78 : Int) (k0 : List Int → Int → Option α) : Option α :=
  Nat.rec (motive := fun _ => List Int → Int → Option α) (fun _ _ => none) (fun _ next => spec_l5Trim_L0r N next k0) n v77 v78
theorem spec_l5Trim_L0.ex : ∃ f : ((α : Type) → Nat → Nat → List Int → Int → (List Int → Int → Option α) → Option α), f = fun α => @spec_l5Trim_L0.b α := ⟨_, rfl⟩
noncomputable def spec_l5Trim_L0 {α : Type} : Nat → Nat → List Int → Int → (List Int → Int → Option α) → Option α := Classical.choose spec_l5Trim_L0.ex α
theorem spec_l5Trim_L0.eq : @spec_l5Trim_L0 = @spec_l5Trim_L0.b := funext fun α => congrFun (Classical.choose_spec spec_l5Trim_L0.ex) α
theorem spec_l5Trim_L0.zero {α : Type} (N : Nat) (v77 : List Int) (v78 : Int) (k0 : List Int → Int → Option α) : spec_l5Trim_L0 N 0 v77 v78 k0 = none := by rw [spec_l5Trim_L0.eq]; rfl
theorem spec_l5Trim_L0.succ {α : Type} (N n : Nat) (v77 : List Int) (v78 : Int) (k0 : List Int → Int → Option α) : spec_l5Trim_L0 N (n + 1) v77 v78 k0 = spec_l5Trim_L0r N (fun y0 y1 => spec_l5Trim_L0 N n y0 y1 k0) k0 v77 v78 := by rw [spec_l5Trim_L0.eq]; rfl
noncomputable def spec_l5Trim_L2r {α : Type} (N : Nat) (next : List Int → Int → Int → List Int → Option α) (k0 : List Int → Option α) (v86 : List Int) (v87 : Int) (v88 : Int) (v89 : List Int) : Option α :=
 let x90 := decide (v88 < v87)
 bif x90 then
  bif (decide (v88 < (0 : Int))) then
   none
  else
   match v86[v88.toNat]? with
   | some x91 =>
    let x92 := [x91]
    bif decide (v89.length + x92.length ≤ 8796093022208) then
     let x93 := v89 ++ x92
     let x94 := (IntKind.i64.wrap (v88 + (1 : Int)))
     next v86 v87 x94 x93
    else
     none
   | none => none
 else
  k0 v89
noncomputable def spec_l5Trim_L2.b {α : Type} (N n : Nat) (v86 : List Int) (v87 : Int) (v88 : Int) (v89 : List Int) (k0 : List Int → Option α) : Option α :=
  Nat.rec (motive := fun _ => List Int → Int → Int → List Int → Option α) (fun _ _ _ _ => none) (fun _ next => spec_l5Trim_L2r N next k0) n v86 v87 v88 v89
theorem spec_l5Trim_L2.ex : ∃ f : ((α : Type) → Nat → Nat → List Int → Int → Int → List Int → (List Int → Option α) → Option α), f = fun α => @spec_l5Trim_L2.b α := ⟨_, rfl⟩
noncomputable def spec_l5Trim_L2 {α : Type} : Nat → Nat → List Int → Int → Int → List Int → (List Int → Option α) → Option α := Classical.choose spec_l5Trim_L2.ex α
theorem spec_l5Trim_L2.eq : @spec_l5Trim_L2 = @spec_l5Trim_L2.b := funext fun α => congrFun (Classical.choose_spec spec_l5Trim_L2.ex) α
theorem spec_l5Trim_L2.zero {α : Type} (N : Nat) (v86 : List Int) (v87 : Int) (v88 : Int) (v89 : List Int) (k0 : List Int → Option α) : spec_l5Trim_L2 N 0 v86 v87 v88 v89 k0 = none := by rw [spec_l5Trim_L2.eq]; rfl
theorem spec_l5Trim_L2.succ {α : Type} (N n : Nat) (v86 : List Int) (v87 : Int) (v88 : Int) (v89 : List Int) (k0 : List Int → Option α) : spec_l5Trim_L2 N (n + 1) v86 v87 v88 v89 k0 = spec_l5Trim_L2r N (fun y0 y1 y2 y3 => spec_l5Trim_L2 N n y0 y1 y2 y3 k0) k0 v86 v87 v88 v89 := by rw [spec_l5Trim_L2.eq]; rfl
/-- spec.l5Trim -/
noncomputable def spec_l5Trim.b {α : Type} (N : Nat) (a75 : List Int) (k0 : List Int → Option α) : Option α :=
 let x76 := ((a75.length : Nat) : Int)
 spec_l5Trim_L0 N N a75 x76
  (fun x84 x85 =>
   spec_l5Trim_L2 N N x84 x85 (0 : Int) []
    (fun x95 =>
     k0 x95))
theorem spec_l5Trim.ex : ∃ f : ((α : Type) → Nat → List Int → (List Int → Option α) → Option α), f = fun α => @spec_l5Trim.b α := ⟨_, rfl⟩
noncomputable def spec_l5Trim {α : Type} : Nat → List Int → (List Int → Option α) → Option α := Classical.choose spec_l5Trim.ex α
theorem spec_l5Trim.eq : @spec_l5Trim = @spec_l5Trim.b := funext fun α => congrFun (Classical.choose_spec spec_l5Trim.ex) α

noncomputable def spec_l5Cmp_L0r {α : Type} (N : Nat) (next : List Int → List Int → Int → Option α) (k0 : Int → Option α) (k1 : Option α) (v114 : List Int) (v115 : List Int) (v116 : Int) : Option α :=
 let x117 := (decide ((0 : Int) ≤ v116))
 bif x117 then
  bif (decide (v116 < (0 : Int))) then
   none
  else
   match v114[v116.toNat]? with
   | some x118 =>
    bif (decide (v116 < (0 : Int))) then
     none
    else
     match v115[v116.toNat]? with
     | some x119 =>
      let x120 := decide (x118 < x119)
      bif x120 then
       k0 (-1 : Int)
      else
       bif (decide (v116 < (0 : Int))) then
        none
       else
        match v114[v116.toNat]? with
        | some x121 =>
         bif (decide (v116 < (0 : Int))) then
          none
         else
          match v115[v116.toNat]? with
          | some x122 =>
           let x123 := decide (x122 < x121)
           bif x123 then
            k0 (1 : Int)
           else
            let x124 := (IntKind.i64.wrap (v116 - (1 : Int)))
            next v114 v115 x124
          | none => none
        | none => none
     | none => none
   | none => none
 else
  k1
noncomputable def spec_l5Cmp_L0.b {α : Type} (N n : Nat) (v114 : List Int) (v115 : List Int) (v116 : Int) (k0 : Int → Option α) (k1 : Option α) : Option α :=
  Nat.rec (motive := fun _ => List Int → List Int → Int → Option α) (fun _ _ _ => none) (fun _ next => spec_l5Cmp_L0r N next k0 k1) n v114 v115 v116
theorem spec_l5Cmp_L0.ex : ∃ f : ((α : Type) → Nat → Nat → List Int → List Int → Int → (Int → Option α) → (Option α) → Option α), f = fun α => @spec_l5Cmp_L0.b α := ⟨_, rfl⟩
noncomputable def spec_l5Cmp_L0 {α : Type} : Nat → Nat → List Int → List Int → Int → (Int → Option α) → (Option α) → Option α := Classical.choose spec_l5Cmp_L0.ex α
theorem spec_l5Cmp_L0.eq : @spec_l5Cmp_L0 = @spec_l5Cmp_L0.b := funext fun α => congrFun (Classical.choose_spec spec_l5Cmp_L0.ex) α
theorem spec_l5Cmp_L0.zero {α : Type} (N : Nat) (v114 : List Int) (v115 : List Int) (v116 : Int) (k0 : Int → Option α) (k1 : Option α) : spec_l5Cmp_L0 N 0 v114 v115 v116 k0 k1 = none := by rw [spec_l5Cmp_L0.eq]; rfl
theorem spec_l5Cmp_L0.succ {α : Type} (N n : Nat) (v114 : List Int) (v115 : List Int) (v116 : Int) (k0 : Int → Option α) (k1 : Option α) : spec_l5Cmp_L0 N (n + 1) v114 v115 v116 k0 k1 = spec_l5Cmp_L0r N (fun y0 y1 y2 => spec_l5Cmp_L0 N n y0 y1 y2 k0 k1) k0 k1 v114 v115 v116 := by rw [spec_l5Cmp_L0.eq]; rfl
/-- spec.l5Cmp -/
noncomputable def spec_l5Cmp.b {α : Type} (N : Nat) (a104 : List Int) (a105 : List Int) (k0 : Int → Option α) : Option α :=
 let x106 := ((a104.length : Nat) : Int)
 let x107 := ((a105.length : Nat) : Int)
 let x108 := decide (x106 < x107)
 bif x108 then
  k0 (-1 : Int)
 else
  let x109 := ((a104.length : Nat) : Int)
  let x110 := ((a105.length : Nat) : Int)
  let x111 := decide (x110 < x109)
  bif x111 then
   k0 (1 : Int)
  else
   let x112 := ((a104.length : Nat) : Int)
   let x113 := (IntKind.i64.wrap (x112 - (1 : Int)))
   spec_l5Cmp_L0 N N a104 a105 x113
    (fun x125 =>
     k0 x125)
    (
     k0 (0 : Int))
theorem spec_l5Cmp.ex : ∃ f : ((α : Type) → Nat → List Int → List Int → (Int → Option α) → Option α), f = fun α => @spec_l5Cmp.b α := ⟨_, rfl⟩
noncomputable def spec_l5Cmp {α : Type} : Nat → List Int → List Int → (Int → Option α) → Option α := Classical.choose spec_l5Cmp.ex α
theorem spec_l5Cmp.eq : @spec_l5Cmp = @spec_l5Cmp.b := funext fun α => congrFun (Classical.choose_spec spec_l5Cmp.ex) α

noncomputable def spec_l5DivSmall_L0r {α : Type} (N : Nat) (next : List Int → Int → Int → Int → List Int → Option α) (k0 : Int → List Int → Option α) (v138 : List Int) (v139 : Int) (v140 : Int) (v141 : Int) (v142 : List Int) : Option α :=
 let x143 := (decide ((0 : Int) ≤ v141))
 bif x143 then
  let x144 := (IntKind.i64.wrap (v140 * (65536 : Int)))
  bif (decide (v141 < (0 : Int))) then
   none
  else
   match v138[v141.toNat]? with
   | some x145 =>
    let x146 := IntKind.i64.wrap (x144 + x145)
    bif (decide (v139 = (0 : Int))) then
     none
    else
     let x147 := IntKind.i64.wrap (Int.tdiv x146 v139)
     bif (decide (v141 < (0 : Int))) then
      none
     else
      bif decide (v141.toNat < v142.length) then
       match v142[v141.toNat]? with
       | some x148 =>
        let x149 := v142.set v141.toNat x147
        bif (decide (v139 = (0 : Int))) then
         none
        else
         let x150 := Int.tmod x146 v139
         let x151 := (IntKind.i64.wrap (v141 - (1 : Int)))
         next v138 v139 x150 x151 x149
       | none => none
      else
       none
   | none => none
 else
  k0 v140 v142
noncomputable def spec_l5DivSmall_L0.b {α : Type} (N n : Nat) (v138 : List Int) (v139 : Int) (v140 : Int) (v141 : Int) (v142 : List Int) (k0 : Int → List Int → Option α) : Option α :=
  Nat.rec (motive := fun _ => List Int → Int → Int → Int → List Int → Option α) (fun _ _ _ _ _ => none) (fun _ next => spec_l5DivSmall_L0r N next k0) n v138 v139 v140 v141 v142
theorem spec_l5DivSmall_L0.ex : ∃ f : ((α : Type) → Nat → Nat → List Int → Int → Int → Int → List Int → (Int → List Int → Option α) → Option α), f = fun α => @spec_l5DivSmall_L0.b α := ⟨_, rfl⟩
noncomputable def spec_l5DivSmall_L0 {α : Type} : Nat → Nat → List Int → Int → Int → Int → List Int → (Int → List Int → Option α) → Option α := Classical.choose spec_l5DivSmall_L0.ex α
theorem spec_l5DivSmall_L0.eq : @spec_l5DivSmall_L0 = @spec_l5DivSmall_L0.b := funext fun α => congrFun (Classical.choose_spec spec_l5DivSmall_L0.ex) α
theorem spec_l5DivSmall_L0.zero {α : Type} (N : Nat) (v138 : List Int) (v139 : Int) (v140 : Int) (v141 : Int) (v142 : List Int) (k0 : Int → List Int → Option α) : spec_l5DivSmall_L0 N 0 v138 v139 v140 v141 v142 k0 = none := by rw [spec_l5DivSmall_L0.eq]; rfl
theorem spec_l5DivSmall_L0.succ {α : Type} (N n : Nat) (v138 : List Int) (v139 : Int) (v140 : Int) (v141 : Int) (v142 : List Int) (k0 : Int → List Int → Option α) : spec_l5DivSmall_L0 N (n + 1) v138 v139 v140 v141 v142 k0 = spec_l5DivSmall_L0r N (fun y0 y1 y2 y3 y4 => spec_l5DivSmall_L0 N n y0 y1 y2 y3 y4 k0) k0 v138 v139 v140 v141 v142 := by rw [spec_l5DivSmall_L0.eq]; rfl
/-- spec.l5DivSmall -/
noncomputable def spec_l5DivSmall.b {α : Type} (N : Nat) (a132 : List Int) (a133 : Int) (k0 : Int → List Int → Option α) : Option α :=
 let x134 := ((a132.length : Nat) : Int)
 bif (decide ((0 : Int) ≤ x134)) then
  bif decide (x134 ≤ x134) then
   bif (decide (x134 ≤ ((8796093022208 : Nat) : Int))) then
    let x135 := (List.replicate x134.toNat (0 : Int))
    let x136 := ((a132.length : Nat) : Int)
    let x137 := (IntKind.i64.wrap (x136 - (1 : Int)))
    spec_l5DivSmall_L0 N N a132 a133 (0 : Int) x137 x135
     (fun x152 x153 =>
      spec_l5Trim N x153
       (fun x154 =>
        k0 x152 x154))
   else
    none
  else
   none
 else
  none
theorem spec_l5DivSmall.ex : ∃ f : ((α : Type) → Nat → List Int → Int → (Int → List Int → Option α) → Option α), f = fun α => @spec_l5DivSmall.b α := ⟨_, rfl⟩
noncomputable def spec_l5DivSmall {α : Type} : Nat → List Int → Int → (Int → List Int → Option α) → Option α := Classical.choose spec_l5DivSmall.ex α
theorem spec_l5DivSmall.eq : @spec_l5DivSmall = @spec_l5DivSmall.b := funext fun α => congrFun (Classical.choose_spec spec_l5DivSmall.ex) α

noncomputable def spec_NatOf_L0r {α : Type} (N : Nat) (next : Int → List Int → Option α) (k0 : List Int → Option α) (v159 : Int) (v160 : List Int) : Option α :=
 let x161 := (decide ((0 : Int) < v159))
 bif x161 then
  let x162 := (Int.tmod v159 (65536 : Int))
  let x163 := IntKind.i64.wrap x162
  let x164 := [x163]
  bif decide (v160.length + x164.length ≤ 8796093022208) then
   let x165 := v160 ++ x164
   let x166 := (IntKind.u64.wrap (Int.tdiv v159 (65536 : Int)))
   next x166 x165
  else
   none
 else
  k0 v160
noncomputable def spec_NatOf_L0.b {α : Type} (N n : Nat) (v159 : Int) (v160 : List Int) (k0 : List Int → Option α) : Option α :=
  Nat.rec (motive := fun _ => Int → List Int → Option α) (fun _ _ => none) (fun _ next => spec_NatOf_L0r N next k0) n v159 v160
theorem spec_NatOf_L0.ex : ∃ f : ((α : Type) → Nat → Nat → Int → List Int → (List Int → Option α) → Option α), f = fun α => @spec_NatOf_L0.b α := ⟨_, rfl⟩
noncomputable def spec_NatOf_L0 {α : Type} : Nat → Nat → Int → List Int → (List Int → Option α) → Option α := Classical.choose spec_NatOf_L0.ex α
theorem spec_NatOf_L0.eq : @spec_NatOf_L0 = @spec_NatOf_L0.b := funext fun α => congrFun (Classical.choose_spec spec_NatOf_L0.ex) α
theorem spec_NatOf_L0.zero {α : Type} (N : Nat) (v159 : Int) (v160 : List Int) (k0 : List Int → Option α) : spec_NatOf_L0 N 0 v159 v160 k0 = none := by rw [spec_NatOf_L0.eq]; rfl
theorem spec_NatOf_L0.succ {α : Type} (N n : Nat) (v159 : Int) (v160 : List Int) (k0 : List Int → Option α) : spec_NatOf_L0 N (n + 1) v159 v160 k0 = spec_NatOf_L0r N (fun y0 y1 => spec_NatOf_L0 N n y0 y1 k0) k0 v159 v160 := by rw [spec_NatOf_L0.eq]; rfl
/-- spec.NatOf -/
noncomputable def spec_NatOf.b {α : Type} (N : Nat) (a158 : Int) (k0 : List Int → Option α) : Option α :=
 spec_NatOf_L0 N N a158 []
  (fun x167 =>
   k0 x167)
theorem spec_NatOf.ex : ∃ f : ((α : Type) → Nat → Int → (List Int → Option α) → Option α), f = fun α => @spec_NatOf.b α := ⟨_, rfl⟩
noncomputable def spec_NatOf {α : Type} : Nat → Int → (List Int → Option α) → Option α := Classical.choose spec_NatOf.ex α
theorem spec_NatOf.eq : @spec_NatOf = @spec_NatOf.b := funext fun α => congrFun (Classical.choose_spec spec_NatOf.ex) α

noncomputable def spec_l5Mul_L2r {α : Type} (N : Nat) (next : List Int → List Int → Int → Int → Int → List Int → Option α) (k0 : List Int → List Int → Int → Int → List Int → Option α) (v190 : List Int) (v191 : List Int) (v192 : Int) (v193 : Int) (v194 : Int) (v195 : List Int) : Option α :=
 let x196 := ((v191.length : Nat) : Int)
 let x197 := decide (v194 < x196)
 bif x197 then
  let x198 := IntKind.i64.wrap (v192 + v194)
  bif (decide (x198 < (0 : Int))) then
   none
  else
   bif decide (x198.toNat < v195.length) then
    match v195[x198.toNat]? with
    | some x199 =>
     bif (decide (v192 < (0 : Int))) then
      none
     else
      match v190[v192.toNat]? with
      | some x200 =>
       bif (decide (v194 < (0 : Int))) then
        none
       else
        match v191[v194.toNat]? with
        | some x201 =>
         let x202 := IntKind.i64.wrap (x200 * x201)
         let x203 := IntKind.i64.wrap (x199 + x202)
         let x204 := IntKind.i64.wrap (x203 + v193)
         let x205 := IntKind.i64.wrap (v192 + v194)
         let x206 := (Int.tmod x204 (65536 : Int))
         bif (decide (x205 < (0 : Int))) then
          none
         else
          bif decide (x205.toNat < v195.length) then
           match v195[x205.toNat]? with
           | some x207 =>
            let x208 := v195.set x205.toNat x206
            let x209 := (IntKind.i64.wrap (Int.tdiv x204 (65536 : Int)))
            let x210 := (IntKind.i64.wrap (v194 + (1 : Int)))
            next v190 v191 v192 x209 x210 x208
           | none => none
          else
           none
        | none => none
      | none => none
    | none => none
   else
    none
 else
  k0 v190 v191 v192 v193 v195
noncomputable def spec_l5Mul_L2.b {α : Type} (N n : Nat) (v190 : List Int) (v191 : List Int) (v192 : Int) (v193 : Int) (v194 : Int) (v195 : List Int) (k0 : List Int → List Int → Int → Int → List Int → Option α) : Option α :=
  Nat.rec (motive := fun _ => List Int → List Int → Int → Int → Int → List Int → Option α) (fun _ _ _ _ _ _ => none) (fun _ next => spec_l5Mul_L2r N next k0) n v190 v191 v192 v193 v194 v195
theorem spec_l5Mul_L2.ex : ∃ f : ((α : Type) → Nat → Nat → List Int → List Int → Int → Int → Int → List Int → (List Int → List Int → Int → Int → List Int → Option α) → Option α), f = fun α => @spec_l5Mul_L2.b α := ⟨_, rfl⟩
noncomputable def spec_l5Mul_L2 {α : Type} : Nat → Nat → List Int → List Int → Int → Int → Int → List Int → (List Int → List Int → Int → Int → List Int → Option α) → Option α := Classical.choose spec_l5Mul_L2.ex α
theorem spec_l5Mul_L2.eq : @spec_l5Mul_L2 = @spec_l5Mul_L2.b := funext fun α => congrFun (Classical.choose_spec spec_l5Mul_L2.ex) α
theorem spec_l5Mul_L2.zero {α : Type} (N : Nat) (v190 : List Int) (v191 : List Int) (v192 : Int) (v193 : Int) (v194 : Int) (v195 : List Int) (k0 : List Int → List Int → Int → Int → List Int → Option α) : spec_l5Mul_L2 N 0 v190 v191 v192 v193 v194 v195 k0 = none := by rw [spec_l5Mul_L2.eq]; rfl
theorem spec_l5Mul_L2.succ {α : Type} (N n : Nat) (v190 : List Int) (v191 : List Int) (v192 : Int) (v193 : Int) (v194 : Int) (v195 : List Int) (k0 : List Int → List Int → Int → Int → List Int → Option α) : spec_l5Mul_L2 N (n + 1) v190 v191 v192 v193 v194 v195 k0 = spec_l5Mul_L2r N (fun y0 y1 y2 y3 y4 y5 => spec_l5Mul_L2 N n y0 y1 y2 y3 y4 y5 k0) k0 v190 v191 v192 v193 v194 v195 := by rw [spec_l5Mul_L2.eq]; rfl
noncomputable def spec_l5Mul_L0r {α : Type} (N : Nat) (next : List Int → List Int → Int → List Int → Option α) (k0 : List Int → Option α) (v184 : List Int) (v185 : List Int) (v186 : Int) (v187 : List Int) : Option α :=
 let x188 := ((v184.length : Nat) : Int)
 let x189 := decide (v186 < x188)
 bif x189 then
  spec_l5Mul_L2 N N v184 v185 v186 (0 : Int) (0 : Int) v187
   (fun x211 x212 x213 x214 x215 =>
    let x216 := ((x212.length : Nat) : Int)
    let x217 := IntKind.i64.wrap (x213 + x216)
    bif (decide (x217 < (0 : Int))) then
     none
    else
     bif decide (x217.toNat < x215.length) then
      match x215[x217.toNat]? with
      | some x218 =>
       let x219 := x215.set x217.toNat x214
       let x220 := (IntKind.i64.wrap (x213 + (1 : Int)))
       next x211 x212 x220 x219
      | none => none
     else
      none)
 else
  k0 v187
noncomputable def spec_l5Mul_L0.b {α : Type} (N n : Nat) (v184 : List Int) (v185 : List Int) (v186 : Int) (v187 : List Int) (k0 : List Int → Option α) : Option α :=
  Nat.rec (motive := fun _ => List Int → List Int → Int → List Int → Option α) (fun _ _ _ _ => none) (fun _ next => spec_l5Mul_L0r N next k0) n v184 v185 v186 v187
theorem spec_l5Mul_L0.ex : ∃ f : ((α : Type) → Nat → Nat → List Int → List Int → Int → List Int → (List Int → Option α) → Option α), f = fun α => @spec_l5Mul_L0.b α := ⟨_, rfl⟩
noncomputable def spec_l5Mul_L0 {α : Type} : Nat → Nat → List Int → List Int → Int → List Int → (List Int → Option α) → Option α := Classical.choose spec_l5Mul_L0.ex α
theorem spec_l5Mul_L0.eq : @spec_l5Mul_L0 = @spec_l5Mul_L0.b := funext fun α => congrFun (Classical.choose_spec spec_l5Mul_L0.ex) α
theorem spec_l5Mul_L0.zero {α : Type} (N : Nat) (v184 : List Int) (v185 : List Int) (v186 : Int) (v187 : List Int) (k0 : List Int → Option α) : spec_l5Mul_L0 N 0 v184 v185 v186 v187 k0 = none := by rw [spec_l5Mul_L0.eq]; rfl
theorem spec_l5Mul_L0.succ {α : Type} (N n : Nat) (v184 : List Int) (v185 : List Int) (v186 : Int) (v187 : List Int) (k0 : List Int → Option α) : spec_l5Mul_L0 N (n + 1) v184 v185 v186 v187 k0 = spec_l5Mul_L0r N (fun y0 y1 y2 y3 => spec_l5Mul_L0 N n y0 y1 y2 y3 k0) k0 v184 v185 v186 v187 := by rw [spec_l5Mul_L0.eq]; rfl
/-- spec.l5Mul -/
noncomputable def spec_l5Mul.b {α : Type} (N : Nat) (a178 : List Int) (a179 : List Int) (k0 : List Int → Option α) : Option α :=
 let x180 := ((a178.length : Nat) : Int)
 let x181 := ((a179.length : Nat) : Int)
 let x182 := IntKind.i64.wrap (x180 + x181)
 bif (decide ((0 : Int) ≤ x182)) then
  bif decide (x182 ≤ x182) then
   bif (decide (x182 ≤ ((8796093022208 : Nat) : Int))) then
    let x183 := (List.replicate x182.toNat (0 : Int))
    spec_l5Mul_L0 N N a178 a179 (0 : Int) x183
     (fun x221 =>
      spec_l5Trim N x221
       (fun x222 =>
        k0 x222))
   else
    none
  else
   none
 else
  none
theorem spec_l5Mul.ex : ∃ f : ((α : Type) → Nat → List Int → List Int → (List Int → Option α) → Option α), f = fun α => @spec_l5Mul.b α := ⟨_, rfl⟩
noncomputable def spec_l5Mul {α : Type} : Nat → List Int → List Int → (List Int → Option α) → Option α := Classical.choose spec_l5Mul.ex α
theorem spec_l5Mul.eq : @spec_l5Mul = @spec_l5Mul.b := funext fun α => congrFun (Classical.choose_spec spec_l5Mul.ex) α

/-- spec.l5Times -/
noncomputable def spec_l5Times.b {α : Type} (N : Nat) (a174 : List Int) (a175 : Int) (k0 : List Int → Option α) : Option α :=
 let x176 := (decide (a175 = (0 : Int)))
 bif x176 then
  k0 []
 else
  let x177 := [a175]
  spec_l5Mul N a174 x177
   (fun x223 =>
    k0 x223)
theorem spec_l5Times.ex : ∃ f : ((α : Type) → Nat → List Int → Int → (List Int → Option α) → Option α), f = fun α => @spec_l5Times.b α := ⟨_, rfl⟩
noncomputable def spec_l5Times {α : Type} : Nat → List Int → Int → (List Int → Option α) → Option α := Classical.choose spec_l5Times.ex α
theorem spec_l5Times.eq : @spec_l5Times = @spec_l5Times.b := funext fun α => congrFun (Classical.choose_spec spec_l5Times.ex) α

noncomputable def spec_l5Top_L0r {α : Type} (N : Nat) (next : List Int → Int → List Int → Option α) (k0 : List Int → Option α) (v236 : List Int) (v237 : Int) (v238 : List Int) : Option α :=
 let x239 := ((v236.length : Nat) : Int)
 let x240 := decide (v237 < x239)
 bif x240 then
  bif (decide (v237 < (0 : Int))) then
   none
  else
   match v236[v237.toNat]? with
   | some x241 =>
    let x242 := [x241]
    bif decide (v238.length + x242.length ≤ 8796093022208) then
     let x243 := v238 ++ x242
     let x244 := (IntKind.i64.wrap (v237 + (1 : Int)))
     next v236 x244 x243
    else
     none
   | none => none
 else
  k0 v238
noncomputable def spec_l5Top_L0.b {α : Type} (N n : Nat) (v236 : List Int) (v237 : Int) (v238 : List Int) (k0 : List Int → Option α) : Option α :=
  Nat.rec (motive := fun _ => List Int → Int → List Int → Option α) (fun _ _ _ => none) (fun _ next => spec_l5Top_L0r N next k0) n v236 v237 v238
theorem spec_l5Top_L0.ex : ∃ f : ((α : Type) → Nat → Nat → List Int → Int → List Int → (List Int → Option α) → Option α), f = fun α => @spec_l5Top_L0.b α := ⟨_, rfl⟩
noncomputable def spec_l5Top_L0 {α : Type} : Nat → Nat → List Int → Int → List Int → (List Int → Option α) → Option α := Classical.choose spec_l5Top_L0.ex α
theorem spec_l5Top_L0.eq : @spec_l5Top_L0 = @spec_l5Top_L0.b := funext fun α => congrFun (Classical.choose_spec spec_l5Top_L0.ex) α
theorem spec_l5Top_L0.zero {α : Type} (N : Nat) (v236 : List Int) (v237 : Int) (v238 : List Int) (k0 : List Int → Option α) : spec_l5Top_L0 N 0 v236 v237 v238 k0 = none := by rw [spec_l5Top_L0.eq]; rfl
theorem spec_l5Top_L0.succ {α : Type} (N n : Nat) (v236 : List Int) (v237 : Int) (v238 : List Int) (k0 : List Int → Option α) : spec_l5Top_L0 N (n + 1) v236 v237 v238 k0 = spec_l5Top_L0r N (fun y0 y1 y2 => spec_l5Top_L0 N n y0 y1 y2 k0) k0 v236 v237 v238 := by rw [spec_l5Top_L0.eq]; rfl
/-- spec.l5Top -/
noncomputable def spec_l5Top.b {α : Type} (N : Nat) (a234 : List Int) (a235 : Int) (k0 : List Int → Option α) : Option α :=
 spec_l5Top_L0 N N a234 a235 []
  (fun x245 =>
   k0 x245)
theorem spec_l5Top.ex : ∃ f : ((α : Type) → Nat → List Int → Int → (List Int → Option α) → Option α), f = fun α => @spec_l5Top.b α := ⟨_, rfl⟩
noncomputable def spec_l5Top {α : Type} : Nat → List Int → Int → (List Int → Option α) → Option α := Classical.choose spec_l5Top.ex α
theorem spec_l5Top.eq : @spec_l5Top = @spec_l5Top.b := funext fun α => congrFun (Classical.choose_spec spec_l5Top.ex) α

noncomputable def spec_l5Shl_L0r {α : Type} (N : Nat) (next : List Int → Int → List Int → Option α) (k0 : List Int → Option α) (v262 : List Int) (v263 : Int) (v264 : List Int) : Option α :=
 let x265 := ((v262.length : Nat) : Int)
 let x266 := decide (v263 < x265)
 bif x266 then
  bif (decide (v263 < (0 : Int))) then
   none
  else
   match v262[v263.toNat]? with
   | some x267 =>
    let x268 := [x267]
    bif decide (v264.length + x268.length ≤ 8796093022208) then
     let x269 := v264 ++ x268
     let x270 := (IntKind.i64.wrap (v263 + (1 : Int)))
     next v262 x270 x269
    else
     none
   | none => none
 else
  k0 v264
noncomputable def spec_l5Shl_L0.b {α : Type} (N n : Nat) (v262 : List Int) (v263 : Int) (v264 : List Int) (k0 : List Int → Option α) : Option α :=
  Nat.rec (motive := fun _ => List Int → Int → List Int → Option α) (fun _ _ _ => none) (fun _ next => spec_l5Shl_L0r N next k0) n v262 v263 v264
theorem spec_l5Shl_L0.ex : ∃ f : ((α : Type) → Nat → Nat → List Int → Int → List Int → (List Int → Option α) → Option α), f = fun α => @spec_l5Shl_L0.b α := ⟨_, rfl⟩
noncomputable def spec_l5Shl_L0 {α : Type} : Nat → Nat → List Int → Int → List Int → (List Int → Option α) → Option α := Classical.choose spec_l5Shl_L0.ex α
theorem spec_l5Shl_L0.eq : @spec_l5Shl_L0 = @spec_l5Shl_L0.b := funext fun α => congrFun (Classical.choose_spec spec_l5Shl_L0.ex) α
theorem spec_l5Shl_L0.zero {α : Type} (N : Nat) (v262 : List Int) (v263 : Int) (v264 : List Int) (k0 : List Int → Option α) : spec_l5Shl_L0 N 0 v262 v263 v264 k0 = none := by rw [spec_l5Shl_L0.eq]; rfl
theorem spec_l5Shl_L0.succ {α : Type} (N n : Nat) (v262 : List Int) (v263 : Int) (v264 : List Int) (k0 : List Int → Option α) : spec_l5Shl_L0 N (n + 1) v262 v263 v264 k0 = spec_l5Shl_L0r N (fun y0 y1 y2 => spec_l5Shl_L0 N n y0 y1 y2 k0) k0 v262 v263 v264 := by rw [spec_l5Shl_L0.eq]; rfl
/-- spec.l5Shl -/
noncomputable def spec_l5Shl.b {α : Type} (N : Nat) (a257 : List Int) (a258 : Int) (k0 : List Int → Option α) : Option α :=
 let x259 := ((a257.length : Nat) : Int)
 let x260 := (decide (x259 = (0 : Int)))
 bif x260 then
  k0 []
 else
  bif (decide ((0 : Int) ≤ a258)) then
   bif decide (a258 ≤ a258) then
    bif (decide (a258 ≤ ((8796093022208 : Nat) : Int))) then
     let x261 := (List.replicate a258.toNat (0 : Int))
     spec_l5Shl_L0 N N a257 (0 : Int) x261
      (fun x271 =>
       k0 x271)
    else
     none
   else
    none
  else
   none
theorem spec_l5Shl.ex : ∃ f : ((α : Type) → Nat → List Int → Int → (List Int → Option α) → Option α), f = fun α => @spec_l5Shl.b α := ⟨_, rfl⟩
noncomputable def spec_l5Shl {α : Type} : Nat → List Int → Int → (List Int → Option α) → Option α := Classical.choose spec_l5Shl.ex α
theorem spec_l5Shl.eq : @spec_l5Shl = @spec_l5Shl.b := funext fun α => congrFun (Classical.choose_spec spec_l5Shl.ex) α

/-- spec.l5At -/
noncomputable def spec_l5At.b {α : Type} (N : Nat) (a295 : List Int) (a296 : Int) (k0 : Int → Option α) : Option α :=
 let x297 := ((a295.length : Nat) : Int)
 let x298 := decide (a296 < x297)
 bif x298 then
  bif (decide (a296 < (0 : Int))) then
   none
  else
   match a295[a296.toNat]? with
   | some x299 =>
    k0 x299
   | none => none
 else
  k0 (0 : Int)
theorem spec_l5At.ex : ∃ f : ((α : Type) → Nat → List Int → Int → (Int → Option α) → Option α), f = fun α => @spec_l5At.b α := ⟨_, rfl⟩
noncomputable def spec_l5At {α : Type} : Nat → List Int → Int → (Int → Option α) → Option α := Classical.choose spec_l5At.ex α
theorem spec_l5At.eq : @spec_l5At = @spec_l5At.b := funext fun α => congrFun (Classical.choose_spec spec_l5At.ex) α

noncomputable def spec_l5Add_J2.b {α : Type} (N : Nat) (v279 : List Int) (v280 : List Int) (v281 : Int) (k0 : List Int → List Int → Int → Option α) : Option α :=
 let x282 := ((v280.length : Nat) : Int)
 let x283 := decide (v281 < x282)
 bif x283 then
  let x284 := ((v280.length : Nat) : Int)
  k0 v279 v280 x284
 else
  k0 v279 v280 v281
theorem spec_l5Add_J2.ex : ∃ f : ((α : Type) → Nat → List Int → List Int → Int → (List Int → List Int → Int → Option α) → Option α), f = fun α => @spec_l5Add_J2.b α := ⟨_, rfl⟩
noncomputable def spec_l5Add_J2 {α : Type} : Nat → List Int → List Int → Int → (List Int → List Int → Int → Option α) → Option α := Classical.choose spec_l5Add_J2.ex α
theorem spec_l5Add_J2.eq : @spec_l5Add_J2 = @spec_l5Add_J2.b := funext fun α => congrFun (Classical.choose_spec spec_l5Add_J2.ex) α
noncomputable def spec_l5Add_L0r {α : Type} (N : Nat) (next : List Int → List Int → Int → Int → Int → List Int → Option α) (k0 : Int → List Int → Option α) (v288 : List Int) (v289 : List Int) (v290 : Int) (v291 : Int) (v292 : Int) (v293 : List Int) : Option α :=
 let x294 := decide (v292 < v290)
 bif x294 then
  spec_l5At N v288 v292
   (fun x300 =>
    spec_l5At N v289 v292
     (fun x301 =>
      let x302 := IntKind.i64.wrap (x300 + x301)
      let x303 := IntKind.i64.wrap (x302 + v291)
      let x304 := (Int.tmod x303 (65536 : Int))
      let x305 := [x304]
      bif decide (v293.length + x305.length ≤ 8796093022208) then
       let x306 := v293 ++ x305
       let x307 := (IntKind.i64.wrap (Int.tdiv x303 (65536 : Int)))
       let x308 := (IntKind.i64.wrap (v292 + (1 : Int)))
       next v288 v289 v290 x307 x308 x306
      else
       none))
 else
  k0 v291 v293
noncomputable def spec_l5Add_L0.b {α : Type} (N n : Nat) (v288 : List Int) (v289 : List Int) (v290 : Int) (v291 : Int) (v292 : Int) (v293 : List Int) (k0 : Int → List Int → Option α) : Option α :=
  Nat.rec (motive := fun _ => List Int → List Int → Int → Int → Int → List Int → Option α) (fun _ _ _ _ _ _ => none) (fun _ next => spec_l5Add_L0r N next k0) n v288 v289 v290 v291 v292 v293
theorem spec_l5Add_L0.ex : ∃ f : ((α : Type) → Nat → Nat → List Int → List Int → Int → Int → Int → List Int → (Int → List Int → Option α) → Option α), f = fun α => @spec_l5Add_L0.b α := ⟨_, rfl⟩
noncomputable def spec_l5Add_L0 {α : Type} : Nat → Nat → List Int → List Int → Int → Int → Int → List Int → (Int → List Int → Option α) → Option α := Classical.choose spec_l5Add_L0.ex α
theorem spec_l5Add_L0.eq : @spec_l5Add_L0 = @spec_l5Add_L0.b := funext fun α => congrFun (Classical.choose_spec spec_l5Add_L0.ex) α
theorem spec_l5Add_L0.zero {α : Type} (N : Nat) (v288 : List Int) (v289 : List Int) (v290 : Int) (v291 : Int) (v292 : Int) (v293 : List Int) (k0 : Int → List Int → Option α) : spec_l5Add_L0 N 0 v288 v289 v290 v291 v292 v293 k0 = none := by rw [spec_l5Add_L0.eq]; rfl
theorem spec_l5Add_L0.succ {α : Type} (N n : Nat) (v288 : List Int) (v289 : List Int) (v290 : Int) (v291 : Int) (v292 : Int) (v293 : List Int) (k0 : Int → List Int → Option α) : spec_l5Add_L0 N (n + 1) v288 v289 v290 v291 v292 v293 k0 = spec_l5Add_L0r N (fun y0 y1 y2 y3 y4 y5 => spec_l5Add_L0 N n y0 y1 y2 y3 y4 y5 k0) k0 v288 v289 v290 v291 v292 v293 := by rw [spec_l5Add_L0.eq]; rfl
noncomputable def spec_l5Add_J12.b {α : Type} (N : Nat) (v311 : Int) (v312 : List Int) (k0 : List Int → Option α) : Option α :=
 let x313 := (decide ((0 : Int) < v311))
 bif x313 then
  let x314 := [v311]
  bif decide (v312.length + x314.length ≤ 8796093022208) then
   let x315 := v312 ++ x314
   k0 x315
  else
   none
 else
  k0 v312
theorem spec_l5Add_J12.ex : ∃ f : ((α : Type) → Nat → Int → List Int → (List Int → Option α) → Option α), f = fun α => @spec_l5Add_J12.b α := ⟨_, rfl⟩
noncomputable def spec_l5Add_J12 {α : Type} : Nat → Int → List Int → (List Int → Option α) → Option α := Classical.choose spec_l5Add_J12.ex α
theorem spec_l5Add_J12.eq : @spec_l5Add_J12 = @spec_l5Add_J12.b := funext fun α => congrFun (Classical.choose_spec spec_l5Add_J12.ex) α
/-- spec.l5Add -/
noncomputable def spec_l5Add.b {α : Type} (N : Nat) (a276 : List Int) (a277 : List Int) (k0 : List Int → Option α) : Option α :=
 let x278 := ((a276.length : Nat) : Int)
 spec_l5Add_J2 N a276 a277 x278
  (fun x285 x286 x287 =>
   spec_l5Add_L0 N N x285 x286 x287 (0 : Int) (0 : Int) []
    (fun x309 x310 =>
     spec_l5Add_J12 N x309 x310
      (fun x316 =>
       k0 x316)))
theorem spec_l5Add.ex : ∃ f : ((α : Type) → Nat → List Int → List Int → (List Int → Option α) → Option α), f = fun α => @spec_l5Add.b α := ⟨_, rfl⟩
noncomputable def spec_l5Add {α : Type} : Nat → List Int → List Int → (List Int → Option α) → Option α := Classical.choose spec_l5Add.ex α
theorem spec_l5Add.eq : @spec_l5Add = @spec_l5Add.b := funext fun α => congrFun (Classical.choose_spec spec_l5Add.ex) α

noncomputable def spec_l5Sub_J8.b {α : Type} (N : Nat) (v369 : List Int) (v370 : List Int) (v371 : Int) (v372 : Int) (v373 : Int) (v374 : List Int) (k0 : List Int → List Int → Int → Int → Int → List Int → Option α) : Option α :=
 let x375 := (decide (v373 < (0 : Int)))
 bif x375 then
  let x376 := (IntKind.i64.wrap (v373 + (65536 : Int)))
  k0 v369 v370 (1 : Int) v372 x376 v374
 else
  k0 v369 v370 v371 v372 v373 v374
theorem spec_l5Sub_J8.ex : ∃ f : ((α : Type) → Nat → List Int → List Int → Int → Int → Int → List Int → (List Int → List Int → Int → Int → Int → List Int → Option α) → Option α), f = fun α => @spec_l5Sub_J8.b α := ⟨_, rfl⟩
noncomputable def spec_l5Sub_J8 {α : Type} : Nat → List Int → List Int → Int → Int → Int → List Int → (List Int → List Int → Int → Int → Int → List Int → Option α) → Option α := Classical.choose spec_l5Sub_J8.ex α
theorem spec_l5Sub_J8.eq : @spec_l5Sub_J8 = @spec_l5Sub_J8.b := funext fun α => congrFun (Classical.choose_spec spec_l5Sub_J8.ex) α
noncomputable def spec_l5Sub_L0r {α : Type} (N : Nat) (next : List Int → List Int → Int → Int → List Int → Option α) (k0 : List Int → Option α) (v358 : List Int) (v359 : List Int) (v360 : Int) (v361 : Int) (v362 : List Int) : Option α :=
 let x363 := ((v358.length : Nat) : Int)
 let x364 := decide (v361 < x363)
 bif x364 then
  bif (decide (v361 < (0 : Int))) then
   none
  else
   match v358[v361.toNat]? with
   | some x365 =>
    spec_l5At N v359 v361
     (fun x366 =>
      let x367 := IntKind.i64.wrap (x365 - x366)
      let x368 := IntKind.i64.wrap (x367 - v360)
      spec_l5Sub_J8 N v358 v359 (0 : Int) v361 x368 v362
       (fun x377 x378 x379 x380 x381 x382 =>
        let x383 := [x381]
        bif decide (x382.length + x383.length ≤ 8796093022208) then
         let x384 := x382 ++ x383
         let x385 := (IntKind.i64.wrap (x380 + (1 : Int)))
         next x377 x378 x379 x385 x384
        else
         none))
   | none => none
 else
  k0 v362
noncomputable def spec_l5Sub_L0.b {α : Type} (N n : Nat) (v358 : List Int) (v359 : List Int) (v360 : Int) (v361 : Int) (v362 : List Int) (k0 : List Int → Option α) : Option α :=
  Nat.rec (motive := fun _ => List Int → List Int → Int → Int → List Int → Option α) (fun _ _ _ _ _ => none) (fun _ next => spec_l5Sub_L0r N next k0) n v358 v359 v360 v361 v362
theorem spec_l5Sub_L0.ex : ∃ f : ((α : Type) → Nat → Nat → List Int → List Int → Int → Int → List Int → (List Int → Option α) → Option α), f = fun α => @spec_l5Sub_L0.b α := ⟨_, rfl⟩
noncomputable def spec_l5Sub_L0 {α : Type} : Nat → Nat → List Int → List Int → Int → Int → List Int → (List Int → Option α) → Option α := Classical.choose spec_l5Sub_L0.ex α
theorem spec_l5Sub_L0.eq : @spec_l5Sub_L0 = @spec_l5Sub_L0.b := funext fun α => congrFun (Classical.choose_spec spec_l5Sub_L0.ex) α
theorem spec_l5Sub_L0.zero {α : Type} (N : Nat) (v358 : List Int) (v359 : List Int) (v360 : Int) (v361 : Int) (v362 : List Int) (k0 : List Int → Option α) : spec_l5Sub_L0 N 0 v358 v359 v360 v361 v362 k0 = none := by rw [spec_l5Sub_L0.eq]; rfl
theorem spec_l5Sub_L0.succ {α : Type} (N n : Nat) (v358 : List Int) (v359 : List Int) (v360 : Int) (v361 : Int) (v362 : List Int) (k0 : List Int → Option α) : spec_l5Sub_L0 N (n + 1) v358 v359 v360 v361 v362 k0 = spec_l5Sub_L0r N (fun y0 y1 y2 y3 y4 => spec_l5Sub_L0 N n y0 y1 y2 y3 y4 k0) k0 v358 v359 v360 v361 v362 := by rw [spec_l5Sub_L0.eq]; rfl
/-- spec.l5Sub -/
noncomputable def spec_l5Sub.b {α : Type} (N : Nat) (a356 : List Int) (a357 : List Int) (k0 : List Int → Option α) : Option α :=
 spec_l5Sub_L0 N N a356 a357 (0 : Int) (0 : Int) []
  (fun x386 =>
   spec_l5Trim N x386
    (fun x387 =>
     k0 x387))
theorem spec_l5Sub.ex : ∃ f : ((α : Type) → Nat → List Int → List Int → (List Int → Option α) → Option α), f = fun α => @spec_l5Sub.b α := ⟨_, rfl⟩
noncomputable def spec_l5Sub {α : Type} : Nat → List Int → List Int → (List Int → Option α) → Option α := Classical.choose spec_l5Sub.ex α
theorem spec_l5Sub.eq : @spec_l5Sub = @spec_l5Sub.b := funext fun α => congrFun (Classical.choose_spec spec_l5Sub.ex) α

noncomputable def spec_l5Div_J17.b {α : Type} (N : Nat) (v327 : Int) (v328 : Int) (v329 : Int) (v330 : Int) (v331 : List Int) (v332 : List Int) (v333 : List Int) (v334 : List Int) (k0 : Int → Int → Int → Int → List Int → List Int → List Int → List Int → Option α) : Option α :=
 let x335 := (decide ((65536 : Int) ≤ v330))
 bif x335 then
  k0 v327 v328 v329 (65535 : Int) v331 v332 v333 v334
 else
  k0 v327 v328 v329 v330 v331 v332 v333 v334
theorem spec_l5Div_J17.ex : ∃ f : ((α : Type) → Nat → Int → Int → Int → Int → List Int → List Int → List Int → List Int → (Int → Int → Int → Int → List Int → List Int → List Int → List Int → Option α) → Option α), f = fun α => @spec_l5Div_J17.b α := ⟨_, rfl⟩
noncomputable def spec_l5Div_J17 {α : Type} : Nat → Int → Int → Int → Int → List Int → List Int → List Int → List Int → (Int → Int → Int → Int → List Int → List Int → List Int → List Int → Option α) → Option α := Classical.choose spec_l5Div_J17.ex α
theorem spec_l5Div_J17.eq : @spec_l5Div_J17 = @spec_l5Div_J17.b := funext fun α => congrFun (Classical.choose_spec spec_l5Div_J17.ex) α
noncomputable def spec_l5Div_L2r {α : Type} (N : Nat) (next : Int → Int → Int → Int → List Int → List Int → List Int → List Int → List Int → Option α) (k0 : Int → Int → Int → Int → List Int → List Int → List Int → List Int → List Int → Option α) (v345 : Int) (v346 : Int) (v347 : Int) (v348 : Int) (v349 : List Int) (v350 : List Int) (v351 : List Int) (v352 : List Int) (v353 : List Int) : Option α :=
 spec_l5Cmp N v353 v352
  (fun x354 =>
   let x355 := (decide ((0 : Int) < x354))
   bif x355 then
    spec_l5Sub N v353 v350
     (fun x388 =>
      let x389 := (IntKind.i64.wrap (v348 - (1 : Int)))
      next v345 v346 v347 x389 v349 v350 v351 v352 x388)
   else
    k0 v345 v346 v347 v348 v349 v350 v351 v352 v353)
noncomputable def spec_l5Div_L2.b {α : Type} (N n : Nat) (v345 : Int) (v346 : Int) (v347 : Int) (v348 : Int) (v349 : List Int) (v350 : List Int) (v351 : List Int) (v352 : List Int) (v353 : List Int) (k0 : Int → Int → Int → Int → List Int → List Int → List Int → List Int → List Int → Option α) : Option α :=
  Nat.rec (motive := fun _ => Int → Int → Int → Int → List Int → List Int → List Int → List Int → List Int → Option α) (fun _ _ _ _ _ _ _ _ _ => none) (fun _ next => spec_l5Div_L2r N next k0) n v345 v346 v347 v348 v349 v350 v351 v352 v353
theorem spec_l5Div_L2.ex : ∃ f : ((α : Type) → Nat → Nat → Int → Int → Int → Int → List Int → List Int → List Int → List Int → List Int → (Int → Int → Int → Int → List Int → List Int → List Int → List Int → List Int → Option α) → Option α), f = fun α => @spec_l5Div_L2.b α := ⟨_, rfl⟩
noncomputable def spec_l5Div_L2 {α : Type} : Nat → Nat → Int → Int → Int → Int → List Int → List Int → List Int → List Int → List Int → (Int → Int → Int → Int → List Int → List Int → List Int → List Int → List Int → Option α) → Option α := Classical.choose spec_l5Div_L2.ex α
theorem spec_l5Div_L2.eq : @spec_l5Div_L2 = @spec_l5Div_L2.b := funext fun α => congrFun (Classical.choose_spec spec_l5Div_L2.ex) α
theorem spec_l5Div_L2.zero {α : Type} (N : Nat) (v345 : Int) (v346 : Int) (v347 : Int) (v348 : Int) (v349 : List Int) (v350 : List Int) (v351 : List Int) (v352 : List Int) (v353 : List Int) (k0 : Int → Int → Int → Int → List Int → List Int → List Int → List Int → List Int → Option α) : spec_l5Div_L2 N 0 v345 v346 v347 v348 v349 v350 v351 v352 v353 k0 = none := by rw [spec_l5Div_L2.eq]; rfl
theorem spec_l5Div_L2.succ {α : Type} (N n : Nat) (v345 : Int) (v346 : Int) (v347 : Int) (v348 : Int) (v349 : List Int) (v350 : List Int) (v351 : List Int) (v352 : List Int) (v353 : List Int) (k0 : Int → Int → Int → Int → List Int → List Int → List Int → List Int → List Int → Option α) : spec_l5Div_L2 N (n + 1) v345 v346 v347 v348 v349 v350 v351 v352 v353 k0 = spec_l5Div_L2r N (fun y0 y1 y2 y3 y4 y5 y6 y7 y8 => spec_l5Div_L2 N n y0 y1 y2 y3 y4 y5 y6 y7 y8 k0) k0 v345 v346 v347 v348 v349 v350 v351 v352 v353 := by rw [spec_l5Div_L2.eq]; rfl
noncomputable def spec_l5Div_L0r {α : Type} (N : Nat) (next : Int → Int → Int → List Int → List Int → List Int → List Int → Option α) (k0 : Int → List Int → List Int → Option α) (v249 : Int) (v250 : Int) (v251 : Int) (v252 : List Int) (v253 : List Int) (v254 : List Int) (v255 : List Int) : Option α :=
 let x256 := (decide ((0 : Int) ≤ v251))
 bif x256 then
  spec_l5Shl N v255 (1 : Int)
   (fun x272 =>
    bif (decide (v251 < (0 : Int))) then
     none
    else
     bif decide (v251.toNat < v252.length) then
      match v252[v251.toNat]? with
      | some x273 =>
       let x274 := IntKind.u64.wrap x273
       spec_NatOf N x274
        (fun x275 =>
         spec_l5Add N x272 x275
          (fun x317 =>
           spec_l5Trim N x317
            (fun x318 =>
             spec_l5At N x318 v250
              (fun x319 =>
               let x320 := (IntKind.i64.wrap (x319 * (65536 : Int)))
               let x321 := (IntKind.i64.wrap (v250 - (1 : Int)))
               spec_l5At N x318 x321
                (fun x322 =>
                 let x323 := IntKind.i64.wrap (x320 + x322)
                 let x324 := (IntKind.i64.wrap (v250 - (1 : Int)))
                 bif (decide (x324 < (0 : Int))) then
                  none
                 else
                  bif decide (x324.toNat < v253.length) then
                   match v253[x324.toNat]? with
                   | some x325 =>
                    bif (decide (x325 = (0 : Int))) then
                     none
                    else
                     let x326 := IntKind.i64.wrap (Int.tdiv x323 x325)
                     spec_l5Div_J17 N v249 v250 v251 x326 v252 v253 v254 x318
                      (fun x336 x337 x338 x339 x340 x341 x342 x343 =>
                       spec_l5Times N x341 x339
                        (fun x344 =>
                         spec_l5Div_L2 N N x336 x337 x338 x339 x340 x341 x342 x343 x344
                          (fun x390 x391 x392 x393 x394 x395 x396 x397 x398 =>
                           bif (decide (x392 < (0 : Int))) then
                            none
                           else
                            bif decide (x392.toNat < x396.length) then
                             match x396[x392.toNat]? with
                             | some x399 =>
                              let x400 := x396.set x392.toNat x393
                              spec_l5Sub N x397 x398
                               (fun x401 =>
                                let x402 := (IntKind.i64.wrap (x392 - (1 : Int)))
                                next x390 x391 x402 x394 x395 x400 x401)
                             | none => none
                            else
                             none)))
                   | none => none
                  else
                   none)))))
      | none => none
     else
      none)
 else
  k0 v249 v254 v255
noncomputable def spec_l5Div_L0.b {α : Type} (N n : Nat) (v249 : Int) (v250 : Int) (v251 : Int) (v252 : List Int) (v253 : List Int) (v254 : List Int) (v255 : List Int) (k0 : Int → List Int → List Int → Option α) : Option α :=
  Nat.rec (motive := fun _ => Int → Int → Int → List Int → List Int → List Int → List Int → Option α) (fun _ _ _ _ _ _ _ => none) (fun _ next => spec_l5Div_L0r N next k0) n v249 v250 v251 v252 v253 v254 v255
theorem spec_l5Div_L0.ex : ∃ f : ((α : Type) → Nat → Nat → Int → Int → Int → List Int → List Int → List Int → List Int → (Int → List Int → List Int → Option α) → Option α), f = fun α => @spec_l5Div_L0.b α := ⟨_, rfl⟩
noncomputable def spec_l5Div_L0 {α : Type} : Nat → Nat → Int → Int → Int → List Int → List Int → List Int → List Int → (Int → List Int → List Int → Option α) → Option α := Classical.choose spec_l5Div_L0.ex α
theorem spec_l5Div_L0.eq : @spec_l5Div_L0 = @spec_l5Div_L0.b := funext fun α => congrFun (Classical.choose_spec spec_l5Div_L0.ex) α
theorem spec_l5Div_L0.zero {α : Type} (N : Nat) (v249 : Int) (v250 : Int) (v251 : Int) (v252 : List Int) (v253 : List Int) (v254 : List Int) (v255 : List Int) (k0 : Int → List Int → List Int → Option α) : spec_l5Div_L0 N 0 v249 v250 v251 v252 v253 v254 v255 k0 = none := by rw [spec_l5Div_L0.eq]; rfl
theorem spec_l5Div_L0.succ {α : Type} (N n : Nat) (v249 : Int) (v250 : Int) (v251 : Int) (v252 : List Int) (v253 : List Int) (v254 : List Int) (v255 : List Int) (k0 : Int → List Int → List Int → Option α) : spec_l5Div_L0 N (n + 1) v249 v250 v251 v252 v253 v254 v255 k0 = spec_l5Div_L0r N (fun y0 y1 y2 y3 y4 y5 y6 => spec_l5Div_L0 N n y0 y1 y2 y3 y4 y5 y6 k0) k0 v249 v250 v251 v252 v253 v254 v255 := by rw [spec_l5Div_L0.eq]; rfl
/-- spec.l5Div -/
noncomputable def spec_l5Div.b {α : Type} (N : Nat) (a102 : List Int) (a103 : List Int) (k0 : List Int → List Int → Option α) : Option α :=
 spec_l5Cmp N a102 a103
  (fun x126 =>
   let x127 := (decide (x126 < (0 : Int)))
   bif x127 then
    spec_l5Trim N a102
     (fun x128 =>
      k0 [] x128)
   else
    let x129 := ((a103.length : Nat) : Int)
    let x130 := (decide (x129 = (1 : Int)))
    bif x130 then
     match a103[0]? with
     | some x131 =>
      spec_l5DivSmall N a102 x131
       (fun x155 x156 =>
        let x157 := IntKind.u64.wrap x155
        spec_NatOf N x157
         (fun x168 =>
          k0 x156 x168))
     | none => none
    else
     let x169 := ((a103.length : Nat) : Int)
     let x170 := (IntKind.i64.wrap (x169 - (1 : Int)))
     bif (decide (x170 < (0 : Int))) then
      none
     else
      match a103[x170.toNat]? with
      | some x171 =>
       let x172 := (IntKind.i64.wrap (x171 + (1 : Int)))
       bif (decide (x172 = (0 : Int))) then
        none
       else
        let x173 := (IntKind.i64.wrap (Int.tdiv (65536 : Int) x172))
        spec_l5Times N a102 x173
         (fun x224 =>
          spec_l5Times N a103 x173
           (fun x225 =>
            let x226 := ((x225.length : Nat) : Int)
            let x227 := ((x224.length : Nat) : Int)
            let x228 := IntKind.i64.wrap (x227 - x226)
            let x229 := (IntKind.i64.wrap (x228 + (1 : Int)))
            bif (decide ((0 : Int) ≤ x229)) then
             bif decide (x229 ≤ x229) then
              bif (decide (x229 ≤ ((8796093022208 : Nat) : Int))) then
               let x230 := (List.replicate x229.toNat (0 : Int))
               let x231 := ((x224.length : Nat) : Int)
               let x232 := IntKind.i64.wrap (x231 - x226)
               let x233 := (IntKind.i64.wrap (x232 + (1 : Int)))
               spec_l5Top N x224 x233
                (fun x246 =>
                 let x247 := ((x224.length : Nat) : Int)
                 let x248 := IntKind.i64.wrap (x247 - x226)
                 spec_l5Div_L0 N N x173 x226 x248 x224 x225 x230 x246
                  (fun x403 x404 x405 =>
                   spec_l5DivSmall N x405 x403
                    (fun _ x407 =>
                     spec_l5Trim N x404
                      (fun x408 =>
                       k0 x408 x407))))
              else
               none
             else
              none
            else
             none))
      | none => none)
theorem spec_l5Div.ex : ∃ f : ((α : Type) → Nat → List Int → List Int → (List Int → List Int → Option α) → Option α), f = fun α => @spec_l5Div.b α := ⟨_, rfl⟩
noncomputable def spec_l5Div {α : Type} : Nat → List Int → List Int → (List Int → List Int → Option α) → Option α := Classical.choose spec_l5Div.ex α
theorem spec_l5Div.eq : @spec_l5Div = @spec_l5Div.b := funext fun α => congrFun (Classical.choose_spec spec_l5Div.ex) α

noncomputable def spec_l5Gcd_L0r {α : Type} (N : Nat) (next : List Int → List Int → Option α) (k0 : List Int → Option α) (v98 : List Int) (v99 : List Int) : Option α :=
 let x100 := ((v99.length : Nat) : Int)
 let x101 := (decide ((0 : Int) < x100))
 bif x101 then
  spec_l5Div N v98 v99
   (fun _ x410 =>
    next v99 x410)
 else
  k0 v98
noncomputable def spec_l5Gcd_L0.b {α : Type} (N n : Nat) (v98 : List Int) (v99 : List Int) (k0 : List Int → Option α) : Option α :=
  Nat.rec (motive := fun _ => List Int → List Int → Option α) (fun _ _ => none) (fun _ next => spec_l5Gcd_L0r N next k0) n v98 v99
theorem spec_l5Gcd_L0.ex : ∃ f : ((α : Type) → Nat → Nat → List Int → List Int → (List Int → Option α) → Option α), f = fun α => @spec_l5Gcd_L0.b α := ⟨_, rfl⟩
noncomputable def spec_l5Gcd_L0 {α : Type} : Nat → Nat → List Int → List Int → (List Int → Option α) → Option α := Classical.choose spec_l5Gcd_L0.ex α
theorem spec_l5Gcd_L0.eq : @spec_l5Gcd_L0 = @spec_l5Gcd_L0.b := funext fun α => congrFun (Classical.choose_spec spec_l5Gcd_L0.ex) α
theorem spec_l5Gcd_L0.zero {α : Type} (N : Nat) (v98 : List Int) (v99 : List Int) (k0 : List Int → Option α) : spec_l5Gcd_L0 N 0 v98 v99 k0 = none := by rw [spec_l5Gcd_L0.eq]; rfl
theorem spec_l5Gcd_L0.succ {α : Type} (N n : Nat) (v98 : List Int) (v99 : List Int) (k0 : List Int → Option α) : spec_l5Gcd_L0 N (n + 1) v98 v99 k0 = spec_l5Gcd_L0r N (fun y0 y1 => spec_l5Gcd_L0 N n y0 y1 k0) k0 v98 v99 := by rw [spec_l5Gcd_L0.eq]; rfl
/-- spec.l5Gcd -/
noncomputable def spec_l5Gcd.b {α : Type} (N : Nat) (a73 : List Int) (a74 : List Int) (k0 : List Int → Option α) : Option α :=
 spec_l5Trim N a73
  (fun x96 =>
   spec_l5Trim N a74
    (fun x97 =>
     spec_l5Gcd_L0 N N x96 x97
      (fun x411 =>
       k0 x411)))
theorem spec_l5Gcd.ex : ∃ f : ((α : Type) → Nat → List Int → List Int → (List Int → Option α) → Option α), f = fun α => @spec_l5Gcd.b α := ⟨_, rfl⟩
noncomputable def spec_l5Gcd {α : Type} : Nat → List Int → List Int → (List Int → Option α) → Option α := Classical.choose spec_l5Gcd.ex α
theorem spec_l5Gcd.eq : @spec_l5Gcd = @spec_l5Gcd.b := funext fun α => congrFun (Classical.choose_spec spec_l5Gcd.ex) α

/-- spec.l6One -/
noncomputable def spec_l6One.b {α : Type} (N : Nat) (a413 : List Int) (k0 : Bool → Option α) : Option α :=
 let x414 := ((a413.length : Nat) : Int)
 let x415 := (decide (x414 = (1 : Int)))
 bif x415 then
  match a413[0]? with
  | some x416 =>
   let x417 := (decide (x416 = (1 : Int)))
   k0 x417
  | none => none
 else
  k0 false
theorem spec_l6One.ex : ∃ f : ((α : Type) → Nat → List Int → (Bool → Option α) → Option α), f = fun α => @spec_l6One.b α := ⟨_, rfl⟩
noncomputable def spec_l6One {α : Type} : Nat → List Int → (Bool → Option α) → Option α := Classical.choose spec_l6One.ex α
theorem spec_l6One.eq : @spec_l6One = @spec_l6One.b := funext fun α => congrFun (Classical.choose_spec spec_l6One.ex) α

/-- spec.FracOk -/
noncomputable def spec_FracOk.b {α : Type} (N : Nat) (a44 : Bool × (List Int) × (List Int) × Unit) (k0 : Bool → Option α) : Option α :=
 spec_NatOk N a44.2.1
  (fun x65 =>
   let x66 := !x65
   bif x66 then
    k0 false
   else
    spec_NatOk N a44.2.2.1
     (fun x67 =>
      let x68 := !x67
      bif x68 then
       k0 false
      else
       let x69 := ((a44.2.2.1.length : Nat) : Int)
       let x70 := (decide (x69 = (0 : Int)))
       bif x70 then
        k0 false
       else
        let x71 := ((a44.2.1.length : Nat) : Int)
        let x72 := (decide (x71 = (0 : Int)))
        bif x72 then
         bif a44.1 then
          k0 false
         else
          spec_l5Gcd N a44.2.1 a44.2.2.1
           (fun x412 =>
            spec_l6One N x412
             (fun x418 =>
              k0 x418))
        else
         spec_l5Gcd N a44.2.1 a44.2.2.1
          (fun x419 =>
           spec_l6One N x419
            (fun x420 =>
             k0 x420))))
theorem spec_FracOk.ex : ∃ f : ((α : Type) → Nat → (Bool × (List Int) × (List Int) × Unit) → (Bool → Option α) → Option α), f = fun α => @spec_FracOk.b α := ⟨_, rfl⟩
noncomputable def spec_FracOk {α : Type} : Nat → (Bool × (List Int) × (List Int) × Unit) → (Bool → Option α) → Option α := Classical.choose spec_FracOk.ex α
theorem spec_FracOk.eq : @spec_FracOk = @spec_FracOk.b := funext fun α => congrFun (Classical.choose_spec spec_FracOk.ex) α

/-- spec.l8Frac -/
noncomputable def spec_l8Frac.b {α : Type} (N : Nat) (a423 : Bool × (List Int) × (List Int) × Unit) (k0 : (Bool × (List Int) × (List Int) × Unit) → Option α) : Option α :=
 k0 (a423.1, (a423.2.1, (a423.2.2.1, ())))
theorem spec_l8Frac.ex : ∃ f : ((α : Type) → Nat → (Bool × (List Int) × (List Int) × Unit) → ((Bool × (List Int) × (List Int) × Unit) → Option α) → Option α), f = fun α => @spec_l8Frac.b α := ⟨_, rfl⟩
noncomputable def spec_l8Frac {α : Type} : Nat → (Bool × (List Int) × (List Int) × Unit) → ((Bool × (List Int) × (List Int) × Unit) → Option α) → Option α := Classical.choose spec_l8Frac.ex α
theorem spec_l8Frac.eq : @spec_l8Frac = @spec_l8Frac.b := funext fun α => congrFun (Classical.choose_spec spec_l8Frac.ex) α

/-- spec.l1Frac -/
noncomputable def spec_l1Frac.b {α : Type} (N : Nat) (a432 : Int) (k0 : Int → Option α) : Option α :=
 let x433 := (decide (a432 = (32 : Int)))
 bif x433 then
  k0 (23 : Int)
 else
  k0 (52 : Int)
theorem spec_l1Frac.ex : ∃ f : ((α : Type) → Nat → Int → (Int → Option α) → Option α), f = fun α => @spec_l1Frac.b α := ⟨_, rfl⟩
noncomputable def spec_l1Frac {α : Type} : Nat → Int → (Int → Option α) → Option α := Classical.choose spec_l1Frac.ex α
theorem spec_l1Frac.eq : @spec_l1Frac = @spec_l1Frac.b := funext fun α => congrFun (Classical.choose_spec spec_l1Frac.ex) α

noncomputable def spec_l5Bits_L0r {α : Type} (N : Nat) (next : Int → Int → Option α) (k0 : Int → Option α) (v445 : Int) (v446 : Int) : Option α :=
 let x447 := (decide ((0 : Int) < v446))
 bif x447 then
  let x448 := (IntKind.i64.wrap (v445 + (1 : Int)))
  let x449 := (IntKind.i64.wrap (Int.tdiv v446 (2 : Int)))
  next x448 x449
 else
  k0 v445
noncomputable def spec_l5Bits_L0.b {α : Type} (N n : Nat) (v445 : Int) (v446 : Int) (k0 : Int → Option α) : Option α :=
  Nat.rec (motive := fun _ => Int → Int → Option α) (fun _ _ => none) (fun _ next => spec_l5Bits_L0r N next k0) n v445 v446
theorem spec_l5Bits_L0.ex : ∃ f : ((α : Type) → Nat → Nat → Int → Int → (Int → Option α) → Option α), f = fun α => @spec_l5Bits_L0.b α := ⟨_, rfl⟩
noncomputable def spec_l5Bits_L0 {α : Type} : Nat → Nat → Int → Int → (Int → Option α) → Option α := Classical.choose spec_l5Bits_L0.ex α
theorem spec_l5Bits_L0.eq : @spec_l5Bits_L0 = @spec_l5Bits_L0.b := funext fun α => congrFun (Classical.choose_spec spec_l5Bits_L0.ex) α
theorem spec_l5Bits_L0.zero {α : Type} (N : Nat) (v445 : Int) (v446 : Int) (k0 : Int → Option α) : spec_l5Bits_L0 N 0 v445 v446 k0 = none := by rw [spec_l5Bits_L0.eq]; rfl
theorem spec_l5Bits_L0.succ {α : Type} (N n : Nat) (v445 : Int) (v446 : Int) (k0 : Int → Option α) : spec_l5Bits_L0 N (n + 1) v445 v446 k0 = spec_l5Bits_L0r N (fun y0 y1 => spec_l5Bits_L0 N n y0 y1 k0) k0 v445 v446 := by rw [spec_l5Bits_L0.eq]; rfl
/-- spec.l5Bits -/
noncomputable def spec_l5Bits.b {α : Type} (N : Nat) (a436 : List Int) (k0 : Int → Option α) : Option α :=
 let x437 := ((a436.length : Nat) : Int)
 let x438 := (decide (x437 = (0 : Int)))
 bif x438 then
  k0 (0 : Int)
 else
  let x439 := ((a436.length : Nat) : Int)
  let x440 := (IntKind.i64.wrap (x439 - (1 : Int)))
  let x441 := (IntKind.i64.wrap ((16 : Int) * x440))
  let x442 := ((a436.length : Nat) : Int)
  let x443 := (IntKind.i64.wrap (x442 - (1 : Int)))
  bif (decide (x443 < (0 : Int))) then
   none
  else
   match a436[x443.toNat]? with
   | some x444 =>
    spec_l5Bits_L0 N N x441 x444
     (fun x450 =>
      k0 x450)
   | none => none
theorem spec_l5Bits.ex : ∃ f : ((α : Type) → Nat → List Int → (Int → Option α) → Option α), f = fun α => @spec_l5Bits.b α := ⟨_, rfl⟩
noncomputable def spec_l5Bits {α : Type} : Nat → List Int → (Int → Option α) → Option α := Classical.choose spec_l5Bits.ex α
theorem spec_l5Bits.eq : @spec_l5Bits = @spec_l5Bits.b := funext fun α => congrFun (Classical.choose_spec spec_l5Bits.ex) α

/-- spec.l1Least -/
noncomputable def spec_l1Least.b {α : Type} (N : Nat) (a459 : Int) (k0 : Int → Option α) : Option α :=
 let x460 := (decide (a459 = (32 : Int)))
 bif x460 then
  k0 (-149 : Int)
 else
  k0 (-1074 : Int)
theorem spec_l1Least.ex : ∃ f : ((α : Type) → Nat → Int → (Int → Option α) → Option α), f = fun α => @spec_l1Least.b α := ⟨_, rfl⟩
noncomputable def spec_l1Least {α : Type} : Nat → Int → (Int → Option α) → Option α := Classical.choose spec_l1Least.ex α
theorem spec_l1Least.eq : @spec_l1Least = @spec_l1Least.b := funext fun α => congrFun (Classical.choose_spec spec_l1Least.ex) α

/-- spec.l5Pow2 -/
noncomputable def spec_l5Pow2.b {α : Type} (N : Nat) (a494 : Int) (k0 : List Int → Option α) : Option α :=
 let x495 := (Int.tmod a494 (16 : Int))
 let x496 := IntKind.u64.wrap x495
 bif (decide (x496 < (0 : Int))) then
  none
 else
  let x497 := (shlI .i64 (1 : Int) x496)
  let x498 := [x497]
  let x499 := (IntKind.i64.wrap (Int.tdiv a494 (16 : Int)))
  spec_l5Shl N x498 x499
   (fun x500 =>
    k0 x500)
theorem spec_l5Pow2.ex : ∃ f : ((α : Type) → Nat → Int → (List Int → Option α) → Option α), f = fun α => @spec_l5Pow2.b α := ⟨_, rfl⟩
noncomputable def spec_l5Pow2 {α : Type} : Nat → Int → (List Int → Option α) → Option α := Classical.choose spec_l5Pow2.ex α
theorem spec_l5Pow2.eq : @spec_l5Pow2 = @spec_l5Pow2.b := funext fun α => congrFun (Classical.choose_spec spec_l5Pow2.ex) α

noncomputable def spec_l8Scaled_J3.b {α : Type} (N : Nat) (v490 : Int) (v491 : List Int) (v492 : List Int) (k0 : List Int → List Int → Option α) : Option α :=
 let x493 := (decide ((0 : Int) ≤ v490))
 bif x493 then
  spec_l5Pow2 N v490
   (fun x501 =>
    spec_l5Mul N v491 x501
     (fun x502 =>
      k0 x502 v492))
 else
  let x503 := IntKind.i64.wrap (0 - v490)
  spec_l5Pow2 N x503
   (fun x504 =>
    spec_l5Mul N v492 x504
     (fun x505 =>
      k0 v491 x505))
theorem spec_l8Scaled_J3.ex : ∃ f : ((α : Type) → Nat → Int → List Int → List Int → (List Int → List Int → Option α) → Option α), f = fun α => @spec_l8Scaled_J3.b α := ⟨_, rfl⟩
noncomputable def spec_l8Scaled_J3 {α : Type} : Nat → Int → List Int → List Int → (List Int → List Int → Option α) → Option α := Classical.choose spec_l8Scaled_J3.ex α
theorem spec_l8Scaled_J3.eq : @spec_l8Scaled_J3 = @spec_l8Scaled_J3.b := funext fun α => congrFun (Classical.choose_spec spec_l8Scaled_J3.ex) α
/-- spec.l8Scaled -/
noncomputable def spec_l8Scaled.b {α : Type} (N : Nat) (a488 : Bool × (List Int) × (List Int) × Unit) (a489 : Int) (k0 : Bool → List Int → Option α) : Option α :=
 spec_l8Scaled_J3 N a489 a488.2.1 a488.2.2.1
  (fun x506 x507 =>
   spec_l5Div N x506 x507
    (fun x508 x509 =>
     let x510 := ((x509.length : Nat) : Int)
     let x511 := (decide ((0 : Int) < x510))
     k0 x511 x508))
theorem spec_l8Scaled.ex : ∃ f : ((α : Type) → Nat → (Bool × (List Int) × (List Int) × Unit) → Int → (Bool → List Int → Option α) → Option α), f = fun α => @spec_l8Scaled.b α := ⟨_, rfl⟩
noncomputable def spec_l8Scaled {α : Type} : Nat → (Bool × (List Int) × (List Int) × Unit) → Int → (Bool → List Int → Option α) → Option α := Classical.choose spec_l8Scaled.ex α
theorem spec_l8Scaled.eq : @spec_l8Scaled = @spec_l8Scaled.b := funext fun α => congrFun (Classical.choose_spec spec_l8Scaled.ex) α

noncomputable def spec_NatSmall_L0r {α : Type} (N : Nat) (next : List Int → Int → Int → Option α) (k0 : Int → Option α) (v538 : List Int) (v539 : Int) (v540 : Int) : Option α :=
 let x541 := (decide ((0 : Int) ≤ v540))
 bif x541 then
  let x542 := (IntKind.u64.wrap (v539 * (65536 : Int)))
  bif (decide (v540 < (0 : Int))) then
   none
  else
   match v538[v540.toNat]? with
   | some x543 =>
    let x544 := IntKind.u64.wrap x543
    let x545 := IntKind.u64.wrap (x542 + x544)
    let x546 := (IntKind.i64.wrap (v540 - (1 : Int)))
    next v538 x545 x546
   | none => none
 else
  k0 v539
noncomputable def spec_NatSmall_L0.b {α : Type} (N n : Nat) (v538 : List Int) (v539 : Int) (v540 : Int) (k0 : Int → Option α) : Option α :=
  Nat.rec (motive := fun _ => List Int → Int → Int → Option α) (fun _ _ _ => none) (fun _ next => spec_NatSmall_L0r N next k0) n v538 v539 v540
theorem spec_NatSmall_L0.ex : ∃ f : ((α : Type) → Nat → Nat → List Int → Int → Int → (Int → Option α) → Option α), f = fun α => @spec_NatSmall_L0.b α := ⟨_, rfl⟩
noncomputable def spec_NatSmall_L0 {α : Type} : Nat → Nat → List Int → Int → Int → (Int → Option α) → Option α := Classical.choose spec_NatSmall_L0.ex α
theorem spec_NatSmall_L0.eq : @spec_NatSmall_L0 = @spec_NatSmall_L0.b := funext fun α => congrFun (Classical.choose_spec spec_NatSmall_L0.ex) α
theorem spec_NatSmall_L0.zero {α : Type} (N : Nat) (v538 : List Int) (v539 : Int) (v540 : Int) (k0 : Int → Option α) : spec_NatSmall_L0 N 0 v538 v539 v540 k0 = none := by rw [spec_NatSmall_L0.eq]; rfl
theorem spec_NatSmall_L0.succ {α : Type} (N n : Nat) (v538 : List Int) (v539 : Int) (v540 : Int) (k0 : Int → Option α) : spec_NatSmall_L0 N (n + 1) v538 v539 v540 k0 = spec_NatSmall_L0r N (fun y0 y1 y2 => spec_NatSmall_L0 N n y0 y1 y2 k0) k0 v538 v539 v540 := by rw [spec_NatSmall_L0.eq]; rfl
/-- spec.NatSmall -/
noncomputable def spec_NatSmall.b {α : Type} (N : Nat) (a531 : List Int) (k0 : Int → Bool → Option α) : Option α :=
 spec_NatOk N a531
  (fun x532 =>
   let x533 := !x532
   bif x533 then
    k0 (0 : Int) false
   else
    let x534 := ((a531.length : Nat) : Int)
    let x535 := (decide ((4 : Int) < x534))
    bif x535 then
     k0 (0 : Int) false
    else
     let x536 := ((a531.length : Nat) : Int)
     let x537 := (IntKind.i64.wrap (x536 - (1 : Int)))
     spec_NatSmall_L0 N N a531 (0 : Int) x537
      (fun x547 =>
       k0 x547 true))
theorem spec_NatSmall.ex : ∃ f : ((α : Type) → Nat → List Int → (Int → Bool → Option α) → Option α), f = fun α => @spec_NatSmall.b α := ⟨_, rfl⟩
noncomputable def spec_NatSmall {α : Type} : Nat → List Int → (Int → Bool → Option α) → Option α := Classical.choose spec_NatSmall.ex α
theorem spec_NatSmall.eq : @spec_NatSmall = @spec_NatSmall.b := funext fun α => congrFun (Classical.choose_spec spec_NatSmall.ex) α

/-- spec.BitTop -/
noncomputable def spec_BitTop.b {α : Type} (N : Nat) (a557 : Int) (k0 : Int → Option α) : Option α :=
 let x558 := (decide (a557 = (32 : Int)))
 bif x558 then
  k0 (2139095040 : Int)
 else
  let x559 := (decide (a557 = (64 : Int)))
  bif x559 then
   k0 (9218868437227405312 : Int)
  else
   k0 (0 : Int)
theorem spec_BitTop.ex : ∃ f : ((α : Type) → Nat → Int → (Int → Option α) → Option α), f = fun α => @spec_BitTop.b α := ⟨_, rfl⟩
noncomputable def spec_BitTop {α : Type} : Nat → Int → (Int → Option α) → Option α := Classical.choose spec_BitTop.ex α
theorem spec_BitTop.eq : @spec_BitTop = @spec_BitTop.b := funext fun α => congrFun (Classical.choose_spec spec_BitTop.ex) α

noncomputable def spec_l8Size_J5.b {α : Type} (N : Nat) (v455 : Int) (v456 : Int) (v457 : Int) (v458 : Bool × (List Int) × (List Int) × Unit) (k0 : Int → Int → Int → (Bool × (List Int) × (List Int) × Unit) → Option α) : Option α :=
 spec_l1Least N v455
  (fun x461 =>
   let x462 := IntKind.i64.wrap (0 - x461)
   let x463 := decide (x462 < v457)
   bif x463 then
    spec_l1Least N v455
     (fun x464 =>
      let x465 := IntKind.i64.wrap (0 - x464)
      k0 v455 v456 x465 v458)
   else
    k0 v455 v456 v457 v458)
theorem spec_l8Size_J5.ex : ∃ f : ((α : Type) → Nat → Int → Int → Int → (Bool × (List Int) × (List Int) × Unit) → (Int → Int → Int → (Bool × (List Int) × (List Int) × Unit) → Option α) → Option α), f = fun α => @spec_l8Size_J5.b α := ⟨_, rfl⟩
noncomputable def spec_l8Size_J5 {α : Type} : Nat → Int → Int → Int → (Bool × (List Int) × (List Int) × Unit) → (Int → Int → Int → (Bool × (List Int) × (List Int) × Unit) → Option α) → Option α := Classical.choose spec_l8Size_J5.ex α
theorem spec_l8Size_J5.eq : @spec_l8Size_J5 = @spec_l8Size_J5.b := funext fun α => congrFun (Classical.choose_spec spec_l8Size_J5.ex) α
noncomputable def spec_l8Size_L0r {α : Type} (N : Nat) (next : Int → Int → Int → Bool → (Bool × (List Int) × (List Int) × Unit) → List Int → Option α) (k0 : Int → Int → Int → Bool → List Int → Option α) (v514 : Int) (v515 : Int) (v516 : Int) (v517 : Bool) (v518 : Bool × (List Int) × (List Int) × Unit) (v519 : List Int) : Option α :=
 spec_l5Bits N v519
  (fun x520 =>
   let x521 := (IntKind.i64.wrap (v515 + (1 : Int)))
   let x522 := decide (x521 < x520)
   bif x522 then
    let x523 := (IntKind.i64.wrap (v516 - (1 : Int)))
    spec_l8Scaled N v518 x523
     (fun x524 x525 =>
      next v514 v515 x523 x524 v518 x525)
   else
    k0 v514 v515 v516 v517 v519)
noncomputable def spec_l8Size_L0.b {α : Type} (N n : Nat) (v514 : Int) (v515 : Int) (v516 : Int) (v517 : Bool) (v518 : Bool × (List Int) × (List Int) × Unit) (v519 : List Int) (k0 : Int → Int → Int → Bool → List Int → Option α) : Option α :=
  Nat.rec (motive := fun _ => Int → Int → Int → Bool → (Bool × (List Int) × (List Int) × Unit) → List Int → Option α) (fun _ _ _ _ _ _ => none) (fun _ next => spec_l8Size_L0r N next k0) n v514 v515 v516 v517 v518 v519
theorem spec_l8Size_L0.ex : ∃ f : ((α : Type) → Nat → Nat → Int → Int → Int → Bool → (Bool × (List Int) × (List Int) × Unit) → List Int → (Int → Int → Int → Bool → List Int → Option α) → Option α), f = fun α => @spec_l8Size_L0.b α := ⟨_, rfl⟩
noncomputable def spec_l8Size_L0 {α : Type} : Nat → Nat → Int → Int → Int → Bool → (Bool × (List Int) × (List Int) × Unit) → List Int → (Int → Int → Int → Bool → List Int → Option α) → Option α := Classical.choose spec_l8Size_L0.ex α
theorem spec_l8Size_L0.eq : @spec_l8Size_L0 = @spec_l8Size_L0.b := funext fun α => congrFun (Classical.choose_spec spec_l8Size_L0.ex) α
theorem spec_l8Size_L0.zero {α : Type} (N : Nat) (v514 : Int) (v515 : Int) (v516 : Int) (v517 : Bool) (v518 : Bool × (List Int) × (List Int) × Unit) (v519 : List Int) (k0 : Int → Int → Int → Bool → List Int → Option α) : spec_l8Size_L0 N 0 v514 v515 v516 v517 v518 v519 k0 = none := by rw [spec_l8Size_L0.eq]; rfl
theorem spec_l8Size_L0.succ {α : Type} (N n : Nat) (v514 : Int) (v515 : Int) (v516 : Int) (v517 : Bool) (v518 : Bool × (List Int) × (List Int) × Unit) (v519 : List Int) (k0 : Int → Int → Int → Bool → List Int → Option α) : spec_l8Size_L0 N (n + 1) v514 v515 v516 v517 v518 v519 k0 = spec_l8Size_L0r N (fun y0 y1 y2 y3 y4 y5 => spec_l8Size_L0 N n y0 y1 y2 y3 y4 y5 k0) k0 v514 v515 v516 v517 v518 v519 := by rw [spec_l8Size_L0.eq]; rfl
/-- spec.l8Size -/
noncomputable def spec_l8Size.b {α : Type} (N : Nat) (a428 : Int) (a429 : Bool × (List Int) × (List Int) × Unit) (k0 : Int → Bool → Option α) : Option α :=
 let x430 := ((a429.2.1.length : Nat) : Int)
 let x431 := (decide (x430 = (0 : Int)))
 bif x431 then
  k0 (0 : Int) false
 else
  spec_l1Frac N a428
   (fun x434 =>
    let x435 := (IntKind.i64.wrap (x434 + (1 : Int)))
    spec_l5Bits N a429.2.1
     (fun x451 =>
      let x452 := IntKind.i64.wrap (x435 - x451)
      spec_l5Bits N a429.2.2.1
       (fun x453 =>
        let x454 := IntKind.i64.wrap (x452 + x453)
        spec_l8Size_J5 N a428 x434 x454 a429
         (fun x466 x467 x468 x469 =>
          spec_l8Scaled N x469 x468
           (fun x512 x513 =>
            spec_l8Size_L0 N N x466 x467 x468 x512 x469 x513
             (fun x526 x527 x528 x529 x530 =>
              spec_NatSmall N x530
               (fun x548 _ =>
                spec_l5Bits N x530
                 (fun x550 =>
                  let x551 := decide (x550 ≤ x527)
                  bif x551 then
                   let x552 := IntKind.i64.wrap x548
                   k0 x552 x529
                  else
                   let x553 := IntKind.i64.wrap (0 - x528)
                   spec_l1Least N x526
                    (fun x554 =>
                     let x555 := IntKind.i64.wrap (x553 - x554)
                     let x556 := (IntKind.i64.wrap (x555 + (1 : Int)))
                     spec_BitTop N x526
                      (fun x560 =>
                       let x561 := IntKind.u64.wrap x527
                       bif (decide (x561 < (0 : Int))) then
                        none
                       else
                        let x562 := shrI .i64 x560 x561
                        let x563 := (IntKind.i64.wrap (x562 - (1 : Int)))
                        let x564 := decide (x563 < x556)
                        bif x564 then
                         spec_BitTop N x526
                          (fun x565 =>
                           let x566 := (IntKind.i64.wrap (x565 - (1 : Int)))
                           k0 x566 true)
                        else
                         let x567 := IntKind.u64.wrap x527
                         bif (decide (x567 < (0 : Int))) then
                          none
                         else
                          let x568 := shlI .i64 x556 x567
                          let x569 := IntKind.i64.wrap x548
                          let x570 := IntKind.i64.wrap (x568 + x569)
                          let x571 := IntKind.u64.wrap x527
                          bif (decide (x571 < (0 : Int))) then
                           none
                          else
                           let x572 := (shlI .i64 (1 : Int) x571)
                           let x573 := IntKind.i64.wrap (x570 - x572)
                           k0 x573 x529))))))))))
theorem spec_l8Size.ex : ∃ f : ((α : Type) → Nat → Int → (Bool × (List Int) × (List Int) × Unit) → (Int → Bool → Option α) → Option α), f = fun α => @spec_l8Size.b α := ⟨_, rfl⟩
noncomputable def spec_l8Size {α : Type} : Nat → Int → (Bool × (List Int) × (List Int) × Unit) → (Int → Bool → Option α) → Option α := Classical.choose spec_l8Size.ex α
theorem spec_l8Size.eq : @spec_l8Size = @spec_l8Size.b := funext fun α => congrFun (Classical.choose_spec spec_l8Size.ex) α

noncomputable def spec_l8Round_J3.b {α : Type} (N : Nat) (v576 : Bool) (v577 : Int) (v578 : Bool) (k0 : Int → Option α) : Option α :=
 bif v578 then
  let x579 := !v576
  bif x579 then
   let x580 := (IntKind.i64.wrap (v577 + (1 : Int)))
   k0 x580
  else
   k0 v577
 else
  k0 v577
theorem spec_l8Round_J3.ex : ∃ f : ((α : Type) → Nat → Bool → Int → Bool → (Int → Option α) → Option α), f = fun α => @spec_l8Round_J3.b α := ⟨_, rfl⟩
noncomputable def spec_l8Round_J3 {α : Type} : Nat → Bool → Int → Bool → (Int → Option α) → Option α := Classical.choose spec_l8Round_J3.ex α
theorem spec_l8Round_J3.eq : @spec_l8Round_J3 = @spec_l8Round_J3.b := funext fun α => congrFun (Classical.choose_spec spec_l8Round_J3.ex) α
noncomputable def spec_l8Round_J6.b {α : Type} (N : Nat) (v583 : Bool) (v584 : Int) (v585 : Bool) (k0 : Int → Option α) : Option α :=
 bif v585 then
  bif v583 then
   let x586 := (IntKind.i64.wrap (v584 + (1 : Int)))
   k0 x586
  else
   k0 v584
 else
  k0 v584
theorem spec_l8Round_J6.ex : ∃ f : ((α : Type) → Nat → Bool → Int → Bool → (Int → Option α) → Option α), f = fun α => @spec_l8Round_J6.b α := ⟨_, rfl⟩
noncomputable def spec_l8Round_J6 {α : Type} : Nat → Bool → Int → Bool → (Int → Option α) → Option α := Classical.choose spec_l8Round_J6.ex α
theorem spec_l8Round_J6.eq : @spec_l8Round_J6 = @spec_l8Round_J6.b := funext fun α => congrFun (Classical.choose_spec spec_l8Round_J6.ex) α
/-- spec.l8Round -/
noncomputable def spec_l8Round.b {α : Type} (N : Nat) (a425 : Int) (a426 : Bool × (List Int) × (List Int) × Unit) (a427 : Bool) (k0 : Int → Option α) : Option α :=
 spec_l8Size N a425 a426
  (fun x574 x575 =>
   bif a426.1 then
    spec_l8Round_J3 N a427 x574 x575
     (fun x581 =>
      let x582 := IntKind.i64.wrap (0 - x581)
      k0 x582)
   else
    spec_l8Round_J6 N a427 x574 x575
     (fun x587 =>
      k0 x587))
theorem spec_l8Round.ex : ∃ f : ((α : Type) → Nat → Int → (Bool × (List Int) × (List Int) × Unit) → Bool → (Int → Option α) → Option α), f = fun α => @spec_l8Round.b α := ⟨_, rfl⟩
noncomputable def spec_l8Round {α : Type} : Nat → Int → (Bool × (List Int) × (List Int) × Unit) → Bool → (Int → Option α) → Option α := Classical.choose spec_l8Round.ex α
theorem spec_l8Round.eq : @spec_l8Round = @spec_l8Round.b := funext fun α => congrFun (Classical.choose_spec spec_l8Round.ex) α

/-- spec.FloatDown -/
noncomputable def spec_FloatDown.b {α : Type} (N : Nat) (a37 : Int) (a38 : Bool × (List Int) × (List Int) × Unit) (k0 : Int → Bool → Option α) : Option α :=
 spec_l1Width N a37
  (fun x42 =>
   let x43 := !x42
   bif x43 then
    k0 (0 : Int) false
   else
    spec_FracOk N a38
     (fun x421 =>
      let x422 := !x421
      bif x422 then
       k0 (0 : Int) false
      else
       spec_l8Frac N a38
        (fun x424 =>
         spec_l8Round N a37 x424 false
          (fun x588 =>
           k0 x588 true))))
theorem spec_FloatDown.ex : ∃ f : ((α : Type) → Nat → Int → (Bool × (List Int) × (List Int) × Unit) → (Int → Bool → Option α) → Option α), f = fun α => @spec_FloatDown.b α := ⟨_, rfl⟩
noncomputable def spec_FloatDown {α : Type} : Nat → Int → (Bool × (List Int) × (List Int) × Unit) → (Int → Bool → Option α) → Option α := Classical.choose spec_FloatDown.ex α
theorem spec_FloatDown.eq : @spec_FloatDown = @spec_FloatDown.b := funext fun α => congrFun (Classical.choose_spec spec_FloatDown.ex) α

/-- spec.FloatUp -/
noncomputable def spec_FloatUp.b {α : Type} (N : Nat) (a591 : Int) (a592 : Bool × (List Int) × (List Int) × Unit) (k0 : Int → Bool → Option α) : Option α :=
 spec_l1Width N a591
  (fun x593 =>
   let x594 := !x593
   bif x594 then
    k0 (0 : Int) false
   else
    spec_FracOk N a592
     (fun x595 =>
      let x596 := !x595
      bif x596 then
       k0 (0 : Int) false
      else
       spec_l8Frac N a592
        (fun x597 =>
         spec_l8Round N a591 x597 true
          (fun x598 =>
           k0 x598 true))))
theorem spec_FloatUp.ex : ∃ f : ((α : Type) → Nat → Int → (Bool × (List Int) × (List Int) × Unit) → (Int → Bool → Option α) → Option α), f = fun α => @spec_FloatUp.b α := ⟨_, rfl⟩
noncomputable def spec_FloatUp {α : Type} : Nat → Int → (Bool × (List Int) × (List Int) × Unit) → (Int → Bool → Option α) → Option α := Classical.choose spec_FloatUp.ex α
theorem spec_FloatUp.eq : @spec_FloatUp = @spec_FloatUp.b := funext fun α => congrFun (Classical.choose_spec spec_FloatUp.ex) α

/-- spec.PairFrac -/
noncomputable def spec_PairFrac.b {α : Type} (N : Nat) (a35 : Int) (a36 : Bool × (List Int) × (List Int) × Unit) (k0 : (Int × Int × Unit) → Bool → Option α) : Option α :=
 spec_FloatDown N a35 a36
  (fun x589 x590 =>
   spec_FloatUp N a35 a36
    (fun x599 _ =>
     k0 (x589, (x599, ())) x590))
theorem spec_PairFrac.ex : ∃ f : ((α : Type) → Nat → Int → (Bool × (List Int) × (List Int) × Unit) → ((Int × Int × Unit) → Bool → Option α) → Option α), f = fun α => @spec_PairFrac.b α := ⟨_, rfl⟩
noncomputable def spec_PairFrac {α : Type} : Nat → Int → (Bool × (List Int) × (List Int) × Unit) → ((Int × Int × Unit) → Bool → Option α) → Option α := Classical.choose spec_PairFrac.ex α
theorem spec_PairFrac.eq : @spec_PairFrac = @spec_PairFrac.b := funext fun α => congrFun (Classical.choose_spec spec_PairFrac.ex) α

/-- impl.formatOf -/
noncomputable def impl_formatOf.b {α : Type} (N : Nat) (a610 : Int) (k0 : (Int × Int × Int × Int × Unit) → Bool → Option α) : Option α :=
 let x611 := (decide (a610 = (32 : Int)))
 bif x611 then
  k0 ((23 : Int), ((-149 : Int), ((127 : Int), ((2139095040 : Int), ())))) true
 else
  let x612 := (decide (a610 = (64 : Int)))
  bif x612 then
   k0 ((52 : Int), ((-1074 : Int), ((1023 : Int), ((9218868437227405312 : Int), ())))) true
  else
   k0 ((0 : Int), ((0 : Int), ((0 : Int), ((0 : Int), ())))) false
theorem impl_formatOf.ex : ∃ f : ((α : Type) → Nat → Int → ((Int × Int × Int × Int × Unit) → Bool → Option α) → Option α), f = fun α => @impl_formatOf.b α := ⟨_, rfl⟩
noncomputable def impl_formatOf {α : Type} : Nat → Int → ((Int × Int × Int × Int × Unit) → Bool → Option α) → Option α := Classical.choose impl_formatOf.ex α
theorem impl_formatOf.eq : @impl_formatOf = @impl_formatOf.b := funext fun α => congrFun (Classical.choose_spec impl_formatOf.ex) α

/-- impl.in -/
noncomputable def impl_in.b {α : Type} (N : Nat) (a641 : Int) (a642 : Int) (a643 : Int) (k0 : Bool → Option α) : Option α :=
 let x644 := decide (a642 ≤ a641)
 bif x644 then
  let x645 := decide (a641 ≤ a643)
  k0 x645
 else
  k0 false
theorem impl_in.ex : ∃ f : ((α : Type) → Nat → Int → Int → Int → (Bool → Option α) → Option α), f = fun α => @impl_in.b α := ⟨_, rfl⟩
noncomputable def impl_in {α : Type} : Nat → Int → Int → Int → (Bool → Option α) → Option α := Classical.choose impl_in.ex α
theorem impl_in.eq : @impl_in = @impl_in.b := funext fun α => congrFun (Classical.choose_spec impl_in.ex) α

/-- impl.NatOk$1 -/
noncomputable def impl_NatOk_1.b {α : Type} (N : Nat) (a640 : Int) (k0 : Bool → Option α) : Option α :=
 impl_in N a640 (0 : Int) (65535 : Int)
  (fun x646 =>
   let x647 := !x646
   k0 x647)
theorem impl_NatOk_1.ex : ∃ f : ((α : Type) → Nat → Int → (Bool → Option α) → Option α), f = fun α => @impl_NatOk_1.b α := ⟨_, rfl⟩
noncomputable def impl_NatOk_1 {α : Type} : Nat → Int → (Bool → Option α) → Option α := Classical.choose impl_NatOk_1.ex α
theorem impl_NatOk_1.eq : @impl_NatOk_1 = @impl_NatOk_1.b := funext fun α => congrFun (Classical.choose_spec impl_NatOk_1.ex) α

noncomputable def slices_IndexFunc_int_int__impl_NatOk_1_L0r {α : Type} (N : Nat) (next : List Int → Int → Int → Option α) (k0 : Int → Option α) (k1 : Option α) (v635 : List Int) (v636 : Int) (v637 : Int) : Option α :=
 let x638 := decide (v637 < v636)
 bif x638 then
  bif (decide (v637 < (0 : Int))) then
   none
  else
   match v635[v637.toNat]? with
   | some x639 =>
    impl_NatOk_1 N x639
     (fun x648 =>
      bif x648 then
       k0 v637
      else
       let x649 := (IntKind.i64.wrap (v637 + (1 : Int)))
       next v635 v636 x649)
   | none => none
 else
  k1
noncomputable def slices_IndexFunc_int_int__impl_NatOk_1_L0.b {α : Type} (N n : Nat) (v635 : List Int) (v636 : Int) (v637 : Int) (k0 : Int → Option α) (k1 : Option α) : Option α :=
  Nat.rec (motive := fun _ => List Int → Int → Int → Option α) (fun _ _ _ => none) (fun _ next => slices_IndexFunc_int_int__impl_NatOk_1_L0r N next k0 k1) n v635 v636 v637
theorem slices_IndexFunc_int_int__impl_NatOk_1_L0.ex : ∃ f : ((α : Type) → Nat → Nat → List Int → Int → Int → (Int → Option α) → (Option α) → Option α), f = fun α => @slices_IndexFunc_int_int__impl_NatOk_1_L0.b α := ⟨_, rfl⟩
noncomputable def slices_IndexFunc_int_int__impl_NatOk_1_L0 {α : Type} : Nat → Nat → List Int → Int → Int → (Int → Option α) → (Option α) → Option α := Classical.choose slices_IndexFunc_int_int__impl_NatOk_1_L0.ex α
theorem slices_IndexFunc_int_int__impl_NatOk_1_L0.eq : @slices_IndexFunc_int_int__impl_NatOk_1_L0 = @slices_IndexFunc_int_int__impl_NatOk_1_L0.b := funext fun α => congrFun (Classical.choose_spec slices_IndexFunc_int_int__impl_NatOk_1_L0.ex) α
theorem slices_IndexFunc_int_int__impl_NatOk_1_L0.zero {α : Type} (N : Nat) (v635 : List Int) (v636 : Int) (v637 : Int) (k0 : Int → Option α) (k1 : Option α) : slices_IndexFunc_int_int__impl_NatOk_1_L0 N 0 v635 v636 v637 k0 k1 = none := by rw [slices_IndexFunc_int_int__impl_NatOk_1_L0.eq]; rfl
theorem slices_IndexFunc_int_int__impl_NatOk_1_L0.succ {α : Type} (N n : Nat) (v635 : List Int) (v636 : Int) (v637 : Int) (k0 : Int → Option α) (k1 : Option α) : slices_IndexFunc_int_int__impl_NatOk_1_L0 N (n + 1) v635 v636 v637 k0 k1 = slices_IndexFunc_int_int__impl_NatOk_1_L0r N (fun y0 y1 y2 => slices_IndexFunc_int_int__impl_NatOk_1_L0 N n y0 y1 y2 k0 k1) k0 k1 v635 v636 v637 := by rw [slices_IndexFunc_int_int__impl_NatOk_1_L0.eq]; rfl
/-- slices.IndexFunc[[]int,int] -/
noncomputable def slices_IndexFunc_int_int__impl_NatOk_1.b {α : Type} (N : Nat) (a633 : List Int) (k0 : Int → Option α) : Option α :=
 let x634 := ((a633.length : Nat) : Int)
 slices_IndexFunc_int_int__impl_NatOk_1_L0 N N a633 x634 (0 : Int)
  (fun x650 =>
   k0 x650)
  (
   k0 (-1 : Int))
theorem slices_IndexFunc_int_int__impl_NatOk_1.ex : ∃ f : ((α : Type) → Nat → List Int → (Int → Option α) → Option α), f = fun α => @slices_IndexFunc_int_int__impl_NatOk_1.b α := ⟨_, rfl⟩
noncomputable def slices_IndexFunc_int_int__impl_NatOk_1 {α : Type} : Nat → List Int → (Int → Option α) → Option α := Classical.choose slices_IndexFunc_int_int__impl_NatOk_1.ex α
theorem slices_IndexFunc_int_int__impl_NatOk_1.eq : @slices_IndexFunc_int_int__impl_NatOk_1 = @slices_IndexFunc_int_int__impl_NatOk_1.b := funext fun α => congrFun (Classical.choose_spec slices_IndexFunc_int_int__impl_NatOk_1.ex) α

/-- slices.ContainsFunc[[]int,int] -/
noncomputable def slices_ContainsFunc_int_int__impl_NatOk_1.b {α : Type} (N : Nat) (a632 : List Int) (k0 : Bool → Option α) : Option α :=
 slices_IndexFunc_int_int__impl_NatOk_1 N a632
  (fun x651 =>
   let x652 := (decide ((0 : Int) ≤ x651))
   k0 x652)
theorem slices_ContainsFunc_int_int__impl_NatOk_1.ex : ∃ f : ((α : Type) → Nat → List Int → (Bool → Option α) → Option α), f = fun α => @slices_ContainsFunc_int_int__impl_NatOk_1.b α := ⟨_, rfl⟩
noncomputable def slices_ContainsFunc_int_int__impl_NatOk_1 {α : Type} : Nat → List Int → (Bool → Option α) → Option α := Classical.choose slices_ContainsFunc_int_int__impl_NatOk_1.ex α
theorem slices_ContainsFunc_int_int__impl_NatOk_1.eq : @slices_ContainsFunc_int_int__impl_NatOk_1 = @slices_ContainsFunc_int_int__impl_NatOk_1.b := funext fun α => congrFun (Classical.choose_spec slices_ContainsFunc_int_int__impl_NatOk_1.ex) α

/-- impl.NatOk -/
noncomputable def impl_NatOk.b {α : Type} (N : Nat) (a627 : List Int) (k0 : Bool → Option α) : Option α :=
 let x628 := ((a627.length : Nat) : Int)
 let x629 := (decide (x628 ≤ (256 : Int)))
 bif x629 then
  let x630 := ((a627.length : Nat) : Int)
  let x631 := (decide (x630 = (0 : Int)))
  bif x631 then
   slices_ContainsFunc_int_int__impl_NatOk_1 N a627
    (fun x653 =>
     let x654 := !x653
     k0 x654)
  else
   let x655 := ((a627.length : Nat) : Int)
   let x656 := (IntKind.i64.wrap (x655 - (1 : Int)))
   bif (decide (x656 < (0 : Int))) then
    none
   else
    match a627[x656.toNat]? with
    | some x657 =>
     let x658 := (!(decide (x657 = (0 : Int))))
     bif x658 then
      slices_ContainsFunc_int_int__impl_NatOk_1 N a627
       (fun x659 =>
        let x660 := !x659
        k0 x660)
     else
      k0 false
    | none => none
 else
  k0 false
theorem impl_NatOk.ex : ∃ f : ((α : Type) → Nat → List Int → (Bool → Option α) → Option α), f = fun α => @impl_NatOk.b α := ⟨_, rfl⟩
noncomputable def impl_NatOk {α : Type} : Nat → List Int → (Bool → Option α) → Option α := Classical.choose impl_NatOk.ex α
theorem impl_NatOk.eq : @impl_NatOk = @impl_NatOk.b := funext fun α => congrFun (Classical.choose_spec impl_NatOk.ex) α

/-- impl.nats$1 -/
noncomputable def impl_nats_1.b {α : Type} (N : Nat) (a626 : List Int) (k0 : Bool → Option α) : Option α :=
 impl_NatOk N a626
  (fun x661 =>
   let x662 := !x661
   k0 x662)
theorem impl_nats_1.ex : ∃ f : ((α : Type) → Nat → List Int → (Bool → Option α) → Option α), f = fun α => @impl_nats_1.b α := ⟨_, rfl⟩
noncomputable def impl_nats_1 {α : Type} : Nat → List Int → (Bool → Option α) → Option α := Classical.choose impl_nats_1.ex α
theorem impl_nats_1.eq : @impl_nats_1 = @impl_nats_1.b := funext fun α => congrFun (Classical.choose_spec impl_nats_1.ex) α

noncomputable def slices_IndexFunc_int_int__impl_nats_1_L0r {α : Type} (N : Nat) (next : List (List Int) → Int → Int → Option α) (k0 : Int → Option α) (k1 : Option α) (v621 : List (List Int)) (v622 : Int) (v623 : Int) : Option α :=
 let x624 := decide (v623 < v622)
 bif x624 then
  bif (decide (v623 < (0 : Int))) then
   none
  else
   match v621[v623.toNat]? with
   | some x625 =>
    impl_nats_1 N x625
     (fun x663 =>
      bif x663 then
       k0 v623
      else
       let x664 := (IntKind.i64.wrap (v623 + (1 : Int)))
       next v621 v622 x664)
   | none => none
 else
  k1
noncomputable def slices_IndexFunc_int_int__impl_nats_1_L0.b {α : Type} (N n : Nat) (v621 : List (List Int)) (v622 : Int) (v623 : Int) (k0 : Int → Option α) (k1 : Option α) : Option α :=
  Nat.rec (motive := fun _ => List (List Int) → Int → Int → Option α) (fun _ _ _ => none) (fun _ next => slices_IndexFunc_int_int__impl_nats_1_L0r N next k0 k1) n v621 v622 v623
theorem slices_IndexFunc_int_int__impl_nats_1_L0.ex : ∃ f : ((α : Type) → Nat → Nat → List (List Int) → Int → Int → (Int → Option α) → (Option α) → Option α), f = fun α => @slices_IndexFunc_int_int__impl_nats_1_L0.b α := ⟨_, rfl⟩
noncomputable def slices_IndexFunc_int_int__impl_nats_1_L0 {α : Type} : Nat → Nat → List (List Int) → Int → Int → (Int → Option α) → (Option α) → Option α := Classical.choose slices_IndexFunc_int_int__impl_nats_1_L0.ex α
theorem slices_IndexFunc_int_int__impl_nats_1_L0.eq : @slices_IndexFunc_int_int__impl_nats_1_L0 = @slices_IndexFunc_int_int__impl_nats_1_L0.b := funext fun α => congrFun (Classical.choose_spec slices_IndexFunc_int_int__impl_nats_1_L0.ex) α
theorem slices_IndexFunc_int_int__impl_nats_1_L0.zero {α : Type} (N : Nat) (v621 : List (List Int)) (v622 : Int) (v623 : Int) (k0 : Int → Option α) (k1 : Option α) : slices_IndexFunc_int_int__impl_nats_1_L0 N 0 v621 v622 v623 k0 k1 = none := by rw [slices_IndexFunc_int_int__impl_nats_1_L0.eq]; rfl
theorem slices_IndexFunc_int_int__impl_nats_1_L0.succ {α : Type} (N n : Nat) (v621 : List (List Int)) (v622 : Int) (v623 : Int) (k0 : Int → Option α) (k1 : Option α) : slices_IndexFunc_int_int__impl_nats_1_L0 N (n + 1) v621 v622 v623 k0 k1 = slices_IndexFunc_int_int__impl_nats_1_L0r N (fun y0 y1 y2 => slices_IndexFunc_int_int__impl_nats_1_L0 N n y0 y1 y2 k0 k1) k0 k1 v621 v622 v623 := by rw [slices_IndexFunc_int_int__impl_nats_1_L0.eq]; rfl
/-- slices.IndexFunc[[][]int,[]int] -/
noncomputable def slices_IndexFunc_int_int__impl_nats_1.b {α : Type} (N : Nat) (a619 : List (List Int)) (k0 : Int → Option α) : Option α :=
 let x620 := ((a619.length : Nat) : Int)
 slices_IndexFunc_int_int__impl_nats_1_L0 N N a619 x620 (0 : Int)
  (fun x665 =>
   k0 x665)
  (
   k0 (-1 : Int))
theorem slices_IndexFunc_int_int__impl_nats_1.ex : ∃ f : ((α : Type) → Nat → List (List Int) → (Int → Option α) → Option α), f = fun α => @slices_IndexFunc_int_int__impl_nats_1.b α := ⟨_, rfl⟩
noncomputable def slices_IndexFunc_int_int__impl_nats_1 {α : Type} : Nat → List (List Int) → (Int → Option α) → Option α := Classical.choose slices_IndexFunc_int_int__impl_nats_1.ex α
theorem slices_IndexFunc_int_int__impl_nats_1.eq : @slices_IndexFunc_int_int__impl_nats_1 = @slices_IndexFunc_int_int__impl_nats_1.b := funext fun α => congrFun (Classical.choose_spec slices_IndexFunc_int_int__impl_nats_1.ex) α

/-- slices.ContainsFunc[[][]int,[]int] -/
noncomputable def slices_ContainsFunc_int_int__impl_nats_1.b {α : Type} (N : Nat) (a618 : List (List Int)) (k0 : Bool → Option α) : Option α :=
 slices_IndexFunc_int_int__impl_nats_1 N a618
  (fun x666 =>
   let x667 := (decide ((0 : Int) ≤ x666))
   k0 x667)
theorem slices_ContainsFunc_int_int__impl_nats_1.ex : ∃ f : ((α : Type) → Nat → List (List Int) → (Bool → Option α) → Option α), f = fun α => @slices_ContainsFunc_int_int__impl_nats_1.b α := ⟨_, rfl⟩
noncomputable def slices_ContainsFunc_int_int__impl_nats_1 {α : Type} : Nat → List (List Int) → (Bool → Option α) → Option α := Classical.choose slices_ContainsFunc_int_int__impl_nats_1.ex α
theorem slices_ContainsFunc_int_int__impl_nats_1.eq : @slices_ContainsFunc_int_int__impl_nats_1 = @slices_ContainsFunc_int_int__impl_nats_1.b := funext fun α => congrFun (Classical.choose_spec slices_ContainsFunc_int_int__impl_nats_1.ex) α

/-- impl.nats -/
noncomputable def impl_nats.b {α : Type} (N : Nat) (a617 : List (List Int)) (k0 : Bool → Option α) : Option α :=
 slices_ContainsFunc_int_int__impl_nats_1 N a617
  (fun x668 =>
   let x669 := !x668
   k0 x669)
theorem impl_nats.ex : ∃ f : ((α : Type) → Nat → List (List Int) → (Bool → Option α) → Option α), f = fun α => @impl_nats.b α := ⟨_, rfl⟩
noncomputable def impl_nats {α : Type} : Nat → List (List Int) → (Bool → Option α) → Option α := Classical.choose impl_nats.ex α
theorem impl_nats.eq : @impl_nats = @impl_nats.b := funext fun α => congrFun (Classical.choose_spec impl_nats.ex) α

noncomputable def impl_natCmp_L0r {α : Type} (N : Nat) (next : List Int → List Int → Int → Option α) (k0 : Int → Option α) (k1 : Option α) (v764 : List Int) (v765 : List Int) (v766 : Int) : Option α :=
 let x767 := (decide ((0 : Int) ≤ v766))
 bif x767 then
  bif (decide (v766 < (0 : Int))) then
   none
  else
   match v764[v766.toNat]? with
   | some x768 =>
    bif (decide (v766 < (0 : Int))) then
     none
    else
     match v765[v766.toNat]? with
     | some x769 =>
      let x770 := !(decide (x768 = x769))
      bif x770 then
       bif (decide (v766 < (0 : Int))) then
        none
       else
        match v764[v766.toNat]? with
        | some x771 =>
         bif (decide (v766 < (0 : Int))) then
          none
         else
          match v765[v766.toNat]? with
          | some x772 =>
           let x773 := IntKind.i64.wrap (x771 - x772)
           let x774 := (minI (1 : Int) x773)
           let x775 := (maxI (-1 : Int) x774)
           k0 x775
          | none => none
        | none => none
      else
       let x776 := (IntKind.i64.wrap (v766 - (1 : Int)))
       next v764 v765 x776
     | none => none
   | none => none
 else
  k1
noncomputable def impl_natCmp_L0.b {α : Type} (N n : Nat) (v764 : List Int) (v765 : List Int) (v766 : Int) (k0 : Int → Option α) (k1 : Option α) : Option α :=
  Nat.rec (motive := fun _ => List Int → List Int → Int → Option α) (fun _ _ _ => none) (fun _ next => impl_natCmp_L0r N next k0 k1) n v764 v765 v766
theorem impl_natCmp_L0.ex : ∃ f : ((α : Type) → Nat → Nat → List Int → List Int → Int → (Int → Option α) → (Option α) → Option α), f = fun α => @impl_natCmp_L0.b α := ⟨_, rfl⟩
noncomputable def impl_natCmp_L0 {α : Type} : Nat → Nat → List Int → List Int → Int → (Int → Option α) → (Option α) → Option α := Classical.choose impl_natCmp_L0.ex α
theorem impl_natCmp_L0.eq : @impl_natCmp_L0 = @impl_natCmp_L0.b := funext fun α => congrFun (Classical.choose_spec impl_natCmp_L0.ex) α
theorem impl_natCmp_L0.zero {α : Type} (N : Nat) (v764 : List Int) (v765 : List Int) (v766 : Int) (k0 : Int → Option α) (k1 : Option α) : impl_natCmp_L0 N 0 v764 v765 v766 k0 k1 = none := by rw [impl_natCmp_L0.eq]; rfl
theorem impl_natCmp_L0.succ {α : Type} (N n : Nat) (v764 : List Int) (v765 : List Int) (v766 : Int) (k0 : Int → Option α) (k1 : Option α) : impl_natCmp_L0 N (n + 1) v764 v765 v766 k0 k1 = impl_natCmp_L0r N (fun y0 y1 y2 => impl_natCmp_L0 N n y0 y1 y2 k0 k1) k0 k1 v764 v765 v766 := by rw [impl_natCmp_L0.eq]; rfl
/-- impl.natCmp -/
noncomputable def impl_natCmp.b {α : Type} (N : Nat) (a752 : List Int) (a753 : List Int) (k0 : Int → Option α) : Option α :=
 let x754 := ((a752.length : Nat) : Int)
 let x755 := ((a753.length : Nat) : Int)
 let x756 := !(decide (x754 = x755))
 bif x756 then
  let x757 := ((a752.length : Nat) : Int)
  let x758 := ((a753.length : Nat) : Int)
  let x759 := IntKind.i64.wrap (x757 - x758)
  let x760 := (minI (1 : Int) x759)
  let x761 := (maxI (-1 : Int) x760)
  k0 x761
 else
  let x762 := ((a752.length : Nat) : Int)
  let x763 := (IntKind.i64.wrap (x762 - (1 : Int)))
  impl_natCmp_L0 N N a752 a753 x763
   (fun x777 =>
    k0 x777)
   (
    k0 (0 : Int))
theorem impl_natCmp.ex : ∃ f : ((α : Type) → Nat → List Int → List Int → (Int → Option α) → Option α), f = fun α => @impl_natCmp.b α := ⟨_, rfl⟩
noncomputable def impl_natCmp {α : Type} : Nat → List Int → List Int → (Int → Option α) → Option α := Classical.choose impl_natCmp.ex α
theorem impl_natCmp.eq : @impl_natCmp = @impl_natCmp.b := funext fun α => congrFun (Classical.choose_spec impl_natCmp.ex) α

noncomputable def impl_trim_L0r {α : Type} (N : Nat) (next : List Int → Option α) (k0 : List Int → Option α) (v805 : List Int) : Option α :=
 let x806 := ((v805.length : Nat) : Int)
 let x807 := (decide ((0 : Int) < x806))
 bif x807 then
  let x808 := ((v805.length : Nat) : Int)
  let x809 := (IntKind.i64.wrap (x808 - (1 : Int)))
  bif (decide (x809 < (0 : Int))) then
   none
  else
   match v805[x809.toNat]? with
   | some x810 =>
    let x811 := (decide (x810 = (0 : Int)))
    bif x811 then
     let x812 := ((v805.length : Nat) : Int)
     let x813 := (IntKind.i64.wrap (x812 - (1 : Int)))
     bif (decide ((0 : Int) ≤ x813)) then
      bif (decide (x813 ≤ ((v805.length : Nat) : Int))) then
       let x814 := v805.take x813.toNat
       next x814
      else
       none
     else
      none
    else
     k0 v805
   | none => none
 else
  k0 v805
noncomputable def impl_trim_L0.b {α : Type} (N n : Nat) (v805 : List Int) (k0 : List Int → Option α) : Option α :=
  Nat.rec (motive := fun _ => List Int → Option α) (fun _ => none) (fun _ next => impl_trim_L0r N next k0) n v805
theorem impl_trim_L0.ex : ∃ f : ((α : Type) → Nat → Nat → List Int → (List Int → Option α) → Option α), f = fun α => @impl_trim_L0.b α := ⟨_, rfl⟩
noncomputable def impl_trim_L0 {α : Type} : Nat → Nat → List Int → (List Int → Option α) → Option α := Classical.choose impl_trim_L0.ex α
theorem impl_trim_L0.eq : @impl_trim_L0 = @impl_trim_L0.b := funext fun α => congrFun (Classical.choose_spec impl_trim_L0.ex) α
theorem impl_trim_L0.zero {α : Type} (N : Nat) (v805 : List Int) (k0 : List Int → Option α) : impl_trim_L0 N 0 v805 k0 = none := by rw [impl_trim_L0.eq]; rfl
theorem impl_trim_L0.succ {α : Type} (N n : Nat) (v805 : List Int) (k0 : List Int → Option α) : impl_trim_L0 N (n + 1) v805 k0 = impl_trim_L0r N (fun y0 => impl_trim_L0 N n y0 k0) k0 v805 := by rw [impl_trim_L0.eq]; rfl
/-- impl.trim -/
noncomputable def impl_trim.b {α : Type} (N : Nat) (a804 : List Int) (k0 : List Int → Option α) : Option α :=
 impl_trim_L0 N N a804
  (fun x815 =>
   k0 x815)
theorem impl_trim.ex : ∃ f : ((α : Type) → Nat → List Int → (List Int → Option α) → Option α), f = fun α => @impl_trim.b α := ⟨_, rfl⟩
noncomputable def impl_trim {α : Type} : Nat → List Int → (List Int → Option α) → Option α := Classical.choose impl_trim.ex α
theorem impl_trim.eq : @impl_trim = @impl_trim.b := funext fun α => congrFun (Classical.choose_spec impl_trim.ex) α

noncomputable def math_bits_Len64_J1.b {α : Type} (N : Nat) (v825 : Int) (v826 : Int) (k0 : Int → Int → Option α) : Option α :=
 let x827 := (decide ((4294967296 : Int) ≤ v825))
 bif x827 then
  let x828 := (shrI .u64 v825 (32 : Int))
  k0 x828 (32 : Int)
 else
  k0 v825 v826
theorem math_bits_Len64_J1.ex : ∃ f : ((α : Type) → Nat → Int → Int → (Int → Int → Option α) → Option α), f = fun α => @math_bits_Len64_J1.b α := ⟨_, rfl⟩
noncomputable def math_bits_Len64_J1 {α : Type} : Nat → Int → Int → (Int → Int → Option α) → Option α := Classical.choose math_bits_Len64_J1.ex α
theorem math_bits_Len64_J1.eq : @math_bits_Len64_J1 = @math_bits_Len64_J1.b := funext fun α => congrFun (Classical.choose_spec math_bits_Len64_J1.ex) α
noncomputable def math_bits_Len64_J4.b {α : Type} (N : Nat) (v831 : Int) (v832 : Int) (k0 : Int → Int → Option α) : Option α :=
 let x833 := (decide ((65536 : Int) ≤ v831))
 bif x833 then
  let x834 := (shrI .u64 v831 (16 : Int))
  let x835 := (IntKind.i64.wrap (v832 + (16 : Int)))
  k0 x834 x835
 else
  k0 v831 v832
theorem math_bits_Len64_J4.ex : ∃ f : ((α : Type) → Nat → Int → Int → (Int → Int → Option α) → Option α), f = fun α => @math_bits_Len64_J4.b α := ⟨_, rfl⟩
noncomputable def math_bits_Len64_J4 {α : Type} : Nat → Int → Int → (Int → Int → Option α) → Option α := Classical.choose math_bits_Len64_J4.ex α
theorem math_bits_Len64_J4.eq : @math_bits_Len64_J4 = @math_bits_Len64_J4.b := funext fun α => congrFun (Classical.choose_spec math_bits_Len64_J4.ex) α
noncomputable def math_bits_Len64_J7.b {α : Type} (N : Nat) (v838 : Int) (v839 : Int) (k0 : Int → Int → Option α) : Option α :=
 let x840 := (decide ((256 : Int) ≤ v838))
 bif x840 then
  let x841 := (shrI .u64 v838 (8 : Int))
  let x842 := (IntKind.i64.wrap (v839 + (8 : Int)))
  k0 x841 x842
 else
  k0 v838 v839
theorem math_bits_Len64_J7.ex : ∃ f : ((α : Type) → Nat → Int → Int → (Int → Int → Option α) → Option α), f = fun α => @math_bits_Len64_J7.b α := ⟨_, rfl⟩
noncomputable def math_bits_Len64_J7 {α : Type} : Nat → Int → Int → (Int → Int → Option α) → Option α := Classical.choose math_bits_Len64_J7.ex α
theorem math_bits_Len64_J7.eq : @math_bits_Len64_J7 = @math_bits_Len64_J7.b := funext fun α => congrFun (Classical.choose_spec math_bits_Len64_J7.ex) α
/-- math/bits.Len64 -/
noncomputable def math_bits_Len64.b {α : Type} (N : Nat) (a824 : Int) (k0 : Int → Option α) : Option α :=
 math_bits_Len64_J1 N a824 (0 : Int)
  (fun x829 x830 =>
   math_bits_Len64_J4 N x829 x830
    (fun x836 x837 =>
     math_bits_Len64_J7 N x836 x837
      (fun x843 x844 =>
       let x845 := IntKind.u8.wrap x843
       bif (decide (x845 < (0 : Int))) then
        none
       else
        match ((⟨#[0, 1, 2, 2, 3, 3, 3, 3, 4, 4, 4, 4, 4, 4, 4, 4, 5, 5, 5, 5, 5, 5, 5, 5, 5, 5, 5, 5, 5, 5, 5, 5, 6, 6, 6, 6, 6, 6, 6, 6, 6, 6, 6, 6, 6, 6, 6, 6, 6, 6, 6, 6, 6, 6, 6, 6, 6, 6, 6, 6, 6, 6, 6, 6, 7, 7, 7, 7, 7, 7, 7, 7, 7, 7, 7, 7, 7, 7, 7, 7, 7, 7, 7, 7, 7, 7, 7, 7, 7, 7, 7, 7, 7, 7, 7, 7, 7, 7, 7, 7, 7, 7, 7, 7, 7, 7, 7, 7, 7, 7, 7, 7, 7, 7, 7, 7, 7, 7, 7, 7, 7, 7, 7, 7, 7, 7, 7, 7, 8, 8, 8, 8, 8, 8, 8, 8, 8, 8, 8, 8, 8, 8, 8, 8, 8, 8, 8, 8, 8, 8, 8, 8, 8, 8, 8, 8, 8, 8, 8, 8, 8, 8, 8, 8, 8, 8, 8, 8, 8, 8, 8, 8, 8, 8, 8, 8, 8, 8, 8, 8, 8, 8, 8, 8, 8, 8, 8, 8, 8, 8, 8, 8, 8, 8, 8, 8, 8, 8, 8, 8, 8, 8, 8, 8, 8, 8, 8, 8, 8, 8, 8, 8, 8, 8, 8, 8, 8, 8, 8, 8, 8, 8, 8, 8, 8, 8, 8, 8, 8, 8, 8, 8, 8, 8, 8, 8, 8, 8, 8, 8, 8, 8, 8, 8, 8, 8, 8, 8, 8, 8, 8, 8, 8, 8, 8, 8]⟩ : ByteArray)[x845.toNat]? : Option UInt8) with
        | some x846 =>
         let x847 := ((x846.toNat : Nat) : Int)
         let x848 := IntKind.i64.wrap x847
         let x849 := IntKind.i64.wrap (x844 + x848)
         k0 x849
        | none => none)))
theorem math_bits_Len64.ex : ∃ f : ((α : Type) → Nat → Int → (Int → Option α) → Option α), f = fun α => @math_bits_Len64.b α := ⟨_, rfl⟩
noncomputable def math_bits_Len64 {α : Type} : Nat → Int → (Int → Option α) → Option α := Classical.choose math_bits_Len64.ex α
theorem math_bits_Len64.eq : @math_bits_Len64 = @math_bits_Len64.b := funext fun α => congrFun (Classical.choose_spec math_bits_Len64.ex) α

/-- math/bits.Len -/
noncomputable def math_bits_Len.b {α : Type} (N : Nat) (a823 : Int) (k0 : Int → Option α) : Option α :=
 math_bits_Len64 N a823
  (fun x850 =>
   k0 x850)
theorem math_bits_Len.ex : ∃ f : ((α : Type) → Nat → Int → (Int → Option α) → Option α), f = fun α => @math_bits_Len.b α := ⟨_, rfl⟩
noncomputable def math_bits_Len {α : Type} : Nat → Int → (Int → Option α) → Option α := Classical.choose math_bits_Len.ex α
theorem math_bits_Len.eq : @math_bits_Len = @math_bits_Len.b := funext fun α => congrFun (Classical.choose_spec math_bits_Len.ex) α

/-- slices.Clone[[]int,int] -/
noncomputable def slices_Clone_int_int {α : Type} (N : Nat) (a1 : List Int) (k0 : List Int → Option α) : Option α :=
  bif decide (([] : List Int).length + a1.length ≤ 8796093022208) then k0 a1 else none

noncomputable def impl_natShift_J10.b {α : Type} (N : Nat) (v929 : List Int) (v930 : Int) (v931 : Int) (v932 : Int) (v933 : Int) (v934 : Int) (v935 : List Int) (k0 : List Int → Int → Int → Int → Int → List Int → Option α) : Option α :=
 let x936 := IntKind.i64.wrap (v930 + v932)
 let x937 := (IntKind.i64.wrap (x936 + (1 : Int)))
 let x938 := ((v929.length : Nat) : Int)
 let x939 := decide (x937 < x938)
 bif x939 then
  bif (decide (v932 < (0 : Int))) then
   none
  else
   bif decide (v932.toNat < v935.length) then
    match v935[v932.toNat]? with
    | some x940 =>
     let x941 := IntKind.i64.wrap (v930 + v932)
     let x942 := (IntKind.i64.wrap (x941 + (1 : Int)))
     bif (decide (x942 < (0 : Int))) then
      none
     else
      match v929[x942.toNat]? with
      | some x943 =>
       let x944 := (IntKind.i64.wrap ((16 : Int) - v931))
       bif (decide (x944 < (0 : Int))) then
        none
       else
        let x945 := shlI .i64 x943 x944
        let x946 := (bitI .and .i64 x945 (65535 : Int))
        let x947 := bitI .or .i64 x940 x946
        bif (decide (v932 < (0 : Int))) then
         none
        else
         bif decide (v932.toNat < v935.length) then
          match v935[v932.toNat]? with
          | some x948 =>
           let x949 := v935.set v932.toNat x947
           k0 v929 v930 v931 v933 v934 x949
          | none => none
         else
          none
      | none => none
    | none => none
   else
    none
 else
  k0 v929 v930 v931 v933 v934 v935
theorem impl_natShift_J10.ex : ∃ f : ((α : Type) → Nat → List Int → Int → Int → Int → Int → Int → List Int → (List Int → Int → Int → Int → Int → List Int → Option α) → Option α), f = fun α => @impl_natShift_J10.b α := ⟨_, rfl⟩
noncomputable def impl_natShift_J10 {α : Type} : Nat → List Int → Int → Int → Int → Int → Int → List Int → (List Int → Int → Int → Int → Int → List Int → Option α) → Option α := Classical.choose impl_natShift_J10.ex α
theorem impl_natShift_J10.eq : @impl_natShift_J10 = @impl_natShift_J10.b := funext fun α => congrFun (Classical.choose_spec impl_natShift_J10.ex) α
noncomputable def impl_natShift_L0r {α : Type} (N : Nat) (next : List Int → Int → Int → Int → Int → List Int → Option α) (k0 : List Int → Option α) (v918 : List Int) (v919 : Int) (v920 : Int) (v921 : Int) (v922 : Int) (v923 : List Int) : Option α :=
 let x924 := decide (v922 < v921)
 bif x924 then
  bif (decide (v922 < (0 : Int))) then
   none
  else
   bif decide (v922.toNat < v923.length) then
    match v923[v922.toNat]? with
    | some x925 =>
     bif (decide (v920 < (0 : Int))) then
      none
     else
      let x926 := shrI .i64 x925 v920
      bif (decide (v922 < (0 : Int))) then
       none
      else
       bif decide (v922.toNat < v923.length) then
        match v923[v922.toNat]? with
        | some x927 =>
         let x928 := v923.set v922.toNat x926
         impl_natShift_J10 N v918 v919 v920 v922 v921 v922 x928
          (fun x950 x951 x952 x953 x954 x955 =>
           let x956 := (IntKind.i64.wrap (x954 + (1 : Int)))
           next x950 x951 x952 x953 x956 x955)
        | none => none
       else
        none
    | none => none
   else
    none
 else
  k0 v923
noncomputable def impl_natShift_L0.b {α : Type} (N n : Nat) (v918 : List Int) (v919 : Int) (v920 : Int) (v921 : Int) (v922 : Int) (v923 : List Int) (k0 : List Int → Option α) : Option α :=
  Nat.rec (motive := fun _ => List Int → Int → Int → Int → Int → List Int → Option α) (fun _ _ _ _ _ _ => none) (fun _ next => impl_natShift_L0r N next k0) n v918 v919 v920 v921 v922 v923
theorem impl_natShift_L0.ex : ∃ f : ((α : Type) → Nat → Nat → List Int → Int → Int → Int → Int → List Int → (List Int → Option α) → Option α), f = fun α => @impl_natShift_L0.b α := ⟨_, rfl⟩
noncomputable def impl_natShift_L0 {α : Type} : Nat → Nat → List Int → Int → Int → Int → Int → List Int → (List Int → Option α) → Option α := Classical.choose impl_natShift_L0.ex α
theorem impl_natShift_L0.eq : @impl_natShift_L0 = @impl_natShift_L0.b := funext fun α => congrFun (Classical.choose_spec impl_natShift_L0.ex) α
theorem impl_natShift_L0.zero {α : Type} (N : Nat) (v918 : List Int) (v919 : Int) (v920 : Int) (v921 : Int) (v922 : Int) (v923 : List Int) (k0 : List Int → Option α) : impl_natShift_L0 N 0 v918 v919 v920 v921 v922 v923 k0 = none := by rw [impl_natShift_L0.eq]; rfl
theorem impl_natShift_L0.succ {α : Type} (N n : Nat) (v918 : List Int) (v919 : Int) (v920 : Int) (v921 : Int) (v922 : Int) (v923 : List Int) (k0 : List Int → Option α) : impl_natShift_L0 N (n + 1) v918 v919 v920 v921 v922 v923 k0 = impl_natShift_L0r N (fun y0 y1 y2 y3 y4 y5 => impl_natShift_L0 N n y0 y1 y2 y3 y4 y5 k0) k0 v918 v919 v920 v921 v922 v923 := by rw [impl_natShift_L0.eq]; rfl
noncomputable def impl_natShift_L2r {α : Type} (N : Nat) (next : Int → List Int → Int → Int → List Int → Option α) (k0 : List Int → Option α) (v965 : Int) (v966 : List Int) (v967 : Int) (v968 : Int) (v969 : List Int) : Option α :=
 let x970 := decide (v968 < v967)
 bif x970 then
  bif (decide (v968 < (0 : Int))) then
   none
  else
   match v966[v968.toNat]? with
   | some x971 =>
    let x972 := (Int.tmod v965 (16 : Int))
    bif (decide (x972 < (0 : Int))) then
     none
    else
     let x973 := shlI .i64 x971 x972
     let x974 := (IntKind.i64.wrap (Int.tdiv v965 (16 : Int)))
     let x975 := IntKind.i64.wrap (x974 + v968)
     bif (decide (x975 < (0 : Int))) then
      none
     else
      bif decide (x975.toNat < v969.length) then
       match v969[x975.toNat]? with
       | some x976 =>
        let x977 := (bitI .and .i64 x973 (65535 : Int))
        let x978 := bitI .or .i64 x976 x977
        bif (decide (x975 < (0 : Int))) then
         none
        else
         bif decide (x975.toNat < v969.length) then
          match v969[x975.toNat]? with
          | some x979 =>
           let x980 := v969.set x975.toNat x978
           let x981 := (IntKind.i64.wrap (Int.tdiv v965 (16 : Int)))
           let x982 := IntKind.i64.wrap (x981 + v968)
           let x983 := (IntKind.i64.wrap (x982 + (1 : Int)))
           let x984 := (shrI .i64 x973 (16 : Int))
           bif (decide (x983 < (0 : Int))) then
            none
           else
            bif decide (x983.toNat < x980.length) then
             match x980[x983.toNat]? with
             | some x985 =>
              let x986 := x980.set x983.toNat x984
              let x987 := (IntKind.i64.wrap (v968 + (1 : Int)))
              next v965 v966 v967 x987 x986
             | none => none
            else
             none
          | none => none
         else
          none
       | none => none
      else
       none
   | none => none
 else
  k0 v969
noncomputable def impl_natShift_L2.b {α : Type} (N n : Nat) (v965 : Int) (v966 : List Int) (v967 : Int) (v968 : Int) (v969 : List Int) (k0 : List Int → Option α) : Option α :=
  Nat.rec (motive := fun _ => Int → List Int → Int → Int → List Int → Option α) (fun _ _ _ _ _ => none) (fun _ next => impl_natShift_L2r N next k0) n v965 v966 v967 v968 v969
theorem impl_natShift_L2.ex : ∃ f : ((α : Type) → Nat → Nat → Int → List Int → Int → Int → List Int → (List Int → Option α) → Option α), f = fun α => @impl_natShift_L2.b α := ⟨_, rfl⟩
noncomputable def impl_natShift_L2 {α : Type} : Nat → Nat → Int → List Int → Int → Int → List Int → (List Int → Option α) → Option α := Classical.choose impl_natShift_L2.ex α
theorem impl_natShift_L2.eq : @impl_natShift_L2 = @impl_natShift_L2.b := funext fun α => congrFun (Classical.choose_spec impl_natShift_L2.ex) α
theorem impl_natShift_L2.zero {α : Type} (N : Nat) (v965 : Int) (v966 : List Int) (v967 : Int) (v968 : Int) (v969 : List Int) (k0 : List Int → Option α) : impl_natShift_L2 N 0 v965 v966 v967 v968 v969 k0 = none := by rw [impl_natShift_L2.eq]; rfl
theorem impl_natShift_L2.succ {α : Type} (N n : Nat) (v965 : Int) (v966 : List Int) (v967 : Int) (v968 : Int) (v969 : List Int) (k0 : List Int → Option α) : impl_natShift_L2 N (n + 1) v965 v966 v967 v968 v969 k0 = impl_natShift_L2r N (fun y0 y1 y2 y3 y4 => impl_natShift_L2 N n y0 y1 y2 y3 y4 k0) k0 v965 v966 v967 v968 v969 := by rw [impl_natShift_L2.eq]; rfl
/-- impl.natShift -/
noncomputable def impl_natShift.b {α : Type} (N : Nat) (a906 : List Int) (a907 : Int) (k0 : List Int → Option α) : Option α :=
 let x908 := (decide (a907 < (0 : Int)))
 bif x908 then
  let x909 := IntKind.i64.wrap (0 - a907)
  let x910 := (IntKind.i64.wrap (Int.tdiv x909 (16 : Int)))
  let x911 := IntKind.i64.wrap (0 - a907)
  let x912 := (Int.tmod x911 (16 : Int))
  let x913 := ((a906.length : Nat) : Int)
  let x914 := decide (x913 ≤ x910)
  bif x914 then
   k0 []
  else
   bif (decide ((0 : Int) ≤ x910)) then
    bif (decide (x910 ≤ ((a906.length : Nat) : Int))) then
     let x915 := a906.drop x910.toNat
     slices_Clone_int_int N x915
      (fun x916 =>
       let x917 := ((x916.length : Nat) : Int)
       impl_natShift_L0 N N a906 x910 x912 x917 (0 : Int) x916
        (fun x957 =>
         impl_trim N x957
          (fun x958 =>
           k0 x958)))
    else
     none
   else
    none
 else
  let x959 := (IntKind.i64.wrap (Int.tdiv a907 (16 : Int)))
  let x960 := ((a906.length : Nat) : Int)
  let x961 := IntKind.i64.wrap (x959 + x960)
  let x962 := (IntKind.i64.wrap (x961 + (1 : Int)))
  bif (decide ((0 : Int) ≤ x962)) then
   bif decide (x962 ≤ x962) then
    bif (decide (x962 ≤ ((8796093022208 : Nat) : Int))) then
     let x963 := (List.replicate x962.toNat (0 : Int))
     let x964 := ((a906.length : Nat) : Int)
     impl_natShift_L2 N N a907 a906 x964 (0 : Int) x963
      (fun x988 =>
       impl_trim N x988
        (fun x989 =>
         k0 x989))
    else
     none
   else
    none
  else
   none
theorem impl_natShift.ex : ∃ f : ((α : Type) → Nat → List Int → Int → (List Int → Option α) → Option α), f = fun α => @impl_natShift.b α := ⟨_, rfl⟩
noncomputable def impl_natShift {α : Type} : Nat → List Int → Int → (List Int → Option α) → Option α := Classical.choose impl_natShift.ex α
theorem impl_natShift.eq : @impl_natShift = @impl_natShift.b := funext fun α => congrFun (Classical.choose_spec impl_natShift.ex) α

noncomputable def impl_natDiv_L0r {α : Type} (N : Nat) (next : List Int → List Int → Int → Int → List Int → Option α) (k0 : Int → List Int → Option α) (v786 : List Int) (v787 : List Int) (v788 : Int) (v789 : Int) (v790 : List Int) : Option α :=
 let x791 := (decide ((0 : Int) ≤ v789))
 bif x791 then
  let x792 := (shlI .i64 v788 (16 : Int))
  bif (decide (v789 < (0 : Int))) then
   none
  else
   match v786[v789.toNat]? with
   | some x793 =>
    let x794 := bitI .or .i64 x792 x793
    match v787[0]? with
    | some x795 =>
     bif (decide (x795 = (0 : Int))) then
      none
     else
      let x796 := IntKind.i64.wrap (Int.tdiv x794 x795)
      match v787[0]? with
      | some x797 =>
       bif (decide (x797 = (0 : Int))) then
        none
       else
        let x798 := Int.tmod x794 x797
        bif (decide (v789 < (0 : Int))) then
         none
        else
         bif decide (v789.toNat < v790.length) then
          match v790[v789.toNat]? with
          | some x799 =>
           let x800 := v790.set v789.toNat x796
           let x801 := (IntKind.i64.wrap (v789 - (1 : Int)))
           next v786 v787 x798 x801 x800
          | none => none
         else
          none
      | none => none
    | none => none
   | none => none
 else
  k0 v788 v790
noncomputable def impl_natDiv_L0.b {α : Type} (N n : Nat) (v786 : List Int) (v787 : List Int) (v788 : Int) (v789 : Int) (v790 : List Int) (k0 : Int → List Int → Option α) : Option α :=
  Nat.rec (motive := fun _ => List Int → List Int → Int → Int → List Int → Option α) (fun _ _ _ _ _ => none) (fun _ next => impl_natDiv_L0r N next k0) n v786 v787 v788 v789 v790
theorem impl_natDiv_L0.ex : ∃ f : ((α : Type) → Nat → Nat → List Int → List Int → Int → Int → List Int → (Int → List Int → Option α) → Option α), f = fun α => @impl_natDiv_L0.b α := ⟨_, rfl⟩
noncomputable def impl_natDiv_L0 {α : Type} : Nat → Nat → List Int → List Int → Int → Int → List Int → (Int → List Int → Option α) → Option α := Classical.choose impl_natDiv_L0.ex α
theorem impl_natDiv_L0.eq : @impl_natDiv_L0 = @impl_natDiv_L0.b := funext fun α => congrFun (Classical.choose_spec impl_natDiv_L0.ex) α
theorem impl_natDiv_L0.zero {α : Type} (N : Nat) (v786 : List Int) (v787 : List Int) (v788 : Int) (v789 : Int) (v790 : List Int) (k0 : Int → List Int → Option α) : impl_natDiv_L0 N 0 v786 v787 v788 v789 v790 k0 = none := by rw [impl_natDiv_L0.eq]; rfl
theorem impl_natDiv_L0.succ {α : Type} (N n : Nat) (v786 : List Int) (v787 : List Int) (v788 : Int) (v789 : Int) (v790 : List Int) (k0 : Int → List Int → Option α) : impl_natDiv_L0 N (n + 1) v786 v787 v788 v789 v790 k0 = impl_natDiv_L0r N (fun y0 y1 y2 y3 y4 => impl_natDiv_L0 N n y0 y1 y2 y3 y4 k0) k0 v786 v787 v788 v789 v790 := by rw [impl_natDiv_L0.eq]; rfl
noncomputable def impl_natDiv_L2r {α : Type} (N : Nat) (next : List Int → Int → List Int → Int → List Int → Option α) (k0 : Int → List Int → Int → List Int → Option α) (v996 : List Int) (v997 : Int) (v998 : List Int) (v999 : Int) (v1000 : List Int) : Option α :=
 let x1001 := ((v1000.length : Nat) : Int)
 let x1002 := ((v996.length : Nat) : Int)
 let x1003 := (IntKind.i64.wrap (x1002 + (1 : Int)))
 let x1004 := decide (x1001 < x1003)
 bif x1004 then
  let x1005 := [(0 : Int)]
  bif decide (v1000.length + x1005.length ≤ 8796093022208) then
   let x1006 := v1000 ++ x1005
   next v996 v997 v998 v999 x1006
  else
   none
 else
  k0 v997 v998 v999 v1000
noncomputable def impl_natDiv_L2.b {α : Type} (N n : Nat) (v996 : List Int) (v997 : Int) (v998 : List Int) (v999 : Int) (v1000 : List Int) (k0 : Int → List Int → Int → List Int → Option α) : Option α :=
  Nat.rec (motive := fun _ => List Int → Int → List Int → Int → List Int → Option α) (fun _ _ _ _ _ => none) (fun _ next => impl_natDiv_L2r N next k0) n v996 v997 v998 v999 v1000
theorem impl_natDiv_L2.ex : ∃ f : ((α : Type) → Nat → Nat → List Int → Int → List Int → Int → List Int → (Int → List Int → Int → List Int → Option α) → Option α), f = fun α => @impl_natDiv_L2.b α := ⟨_, rfl⟩
noncomputable def impl_natDiv_L2 {α : Type} : Nat → Nat → List Int → Int → List Int → Int → List Int → (Int → List Int → Int → List Int → Option α) → Option α := Classical.choose impl_natDiv_L2.ex α
theorem impl_natDiv_L2.eq : @impl_natDiv_L2 = @impl_natDiv_L2.b := funext fun α => congrFun (Classical.choose_spec impl_natDiv_L2.ex) α
theorem impl_natDiv_L2.zero {α : Type} (N : Nat) (v996 : List Int) (v997 : Int) (v998 : List Int) (v999 : Int) (v1000 : List Int) (k0 : Int → List Int → Int → List Int → Option α) : impl_natDiv_L2 N 0 v996 v997 v998 v999 v1000 k0 = none := by rw [impl_natDiv_L2.eq]; rfl
theorem impl_natDiv_L2.succ {α : Type} (N n : Nat) (v996 : List Int) (v997 : Int) (v998 : List Int) (v999 : Int) (v1000 : List Int) (k0 : Int → List Int → Int → List Int → Option α) : impl_natDiv_L2 N (n + 1) v996 v997 v998 v999 v1000 k0 = impl_natDiv_L2r N (fun y0 y1 y2 y3 y4 => impl_natDiv_L2 N n y0 y1 y2 y3 y4 k0) k0 v996 v997 v998 v999 v1000 := by rw [impl_natDiv_L2.eq]; rfl
noncomputable def impl_natDiv_L6r {α : Type} (N : Nat) (next : Int → List Int → Int → Int → Int → Int → List Int → List Int → Option α) (k0 : Int → List Int → Int → Int → Int → List Int → List Int → Option α) (v1037 : Int) (v1038 : List Int) (v1039 : Int) (v1040 : Int) (v1041 : Int) (v1042 : Int) (v1043 : List Int) (v1044 : List Int) : Option α :=
 let x1045 := (decide ((65536 : Int) ≤ v1041))
 bif x1045 then
  let x1046 := (IntKind.i64.wrap (v1041 - (1 : Int)))
  let x1047 := (IntKind.i64.wrap (v1039 - (1 : Int)))
  bif (decide (x1047 < (0 : Int))) then
   none
  else
   match v1038[x1047.toNat]? with
   | some x1048 =>
    let x1049 := IntKind.i64.wrap (v1042 + x1048)
    let x1050 := (decide ((65536 : Int) ≤ x1049))
    bif x1050 then
     k0 v1037 v1038 v1039 v1040 x1046 v1043 v1044
    else
     next v1037 v1038 v1039 v1040 x1046 x1049 v1043 v1044
   | none => none
 else
  let x1051 := (IntKind.i64.wrap (v1039 - (2 : Int)))
  bif (decide (x1051 < (0 : Int))) then
   none
  else
   match v1038[x1051.toNat]? with
   | some x1052 =>
    let x1053 := IntKind.i64.wrap (v1041 * x1052)
    let x1054 := (shlI .i64 v1042 (16 : Int))
    let x1055 := IntKind.i64.wrap (v1040 + v1039)
    let x1056 := (IntKind.i64.wrap (x1055 - (2 : Int)))
    bif (decide (x1056 < (0 : Int))) then
     none
    else
     bif decide (x1056.toNat < v1043.length) then
      match v1043[x1056.toNat]? with
      | some x1057 =>
       let x1058 := bitI .or .i64 x1054 x1057
       let x1059 := decide (x1058 < x1053)
       bif x1059 then
        let x1060 := (IntKind.i64.wrap (v1041 - (1 : Int)))
        let x1061 := (IntKind.i64.wrap (v1039 - (1 : Int)))
        bif (decide (x1061 < (0 : Int))) then
         none
        else
         match v1038[x1061.toNat]? with
         | some x1062 =>
          let x1063 := IntKind.i64.wrap (v1042 + x1062)
          let x1064 := (decide ((65536 : Int) ≤ x1063))
          bif x1064 then
           k0 v1037 v1038 v1039 v1040 x1060 v1043 v1044
          else
           next v1037 v1038 v1039 v1040 x1060 x1063 v1043 v1044
         | none => none
       else
        k0 v1037 v1038 v1039 v1040 v1041 v1043 v1044
      | none => none
     else
      none
   | none => none
noncomputable def impl_natDiv_L6.b {α : Type} (N n : Nat) (v1037 : Int) (v1038 : List Int) (v1039 : Int) (v1040 : Int) (v1041 : Int) (v1042 : Int) (v1043 : List Int) (v1044 : List Int) (k0 : Int → List Int → Int → Int → Int → List Int → List Int → Option α) : Option α :=
  Nat.rec (motive := fun _ => Int → List Int → Int → Int → Int → Int → List Int → List Int → Option α) (fun _ _ _ _ _ _ _ _ => none) (fun _ next => impl_natDiv_L6r N next k0) n v1037 v1038 v1039 v1040 v1041 v1042 v1043 v1044
theorem impl_natDiv_L6.ex : ∃ f : ((α : Type) → Nat → Nat → Int → List Int → Int → Int → Int → Int → List Int → List Int → (Int → List Int → Int → Int → Int → List Int → List Int → Option α) → Option α), f = fun α => @impl_natDiv_L6.b α := ⟨_, rfl⟩
noncomputable def impl_natDiv_L6 {α : Type} : Nat → Nat → Int → List Int → Int → Int → Int → Int → List Int → List Int → (Int → List Int → Int → Int → Int → List Int → List Int → Option α) → Option α := Classical.choose impl_natDiv_L6.ex α
theorem impl_natDiv_L6.eq : @impl_natDiv_L6 = @impl_natDiv_L6.b := funext fun α => congrFun (Classical.choose_spec impl_natDiv_L6.ex) α
theorem impl_natDiv_L6.zero {α : Type} (N : Nat) (v1037 : Int) (v1038 : List Int) (v1039 : Int) (v1040 : Int) (v1041 : Int) (v1042 : Int) (v1043 : List Int) (v1044 : List Int) (k0 : Int → List Int → Int → Int → Int → List Int → List Int → Option α) : impl_natDiv_L6 N 0 v1037 v1038 v1039 v1040 v1041 v1042 v1043 v1044 k0 = none := by rw [impl_natDiv_L6.eq]; rfl
theorem impl_natDiv_L6.succ {α : Type} (N n : Nat) (v1037 : Int) (v1038 : List Int) (v1039 : Int) (v1040 : Int) (v1041 : Int) (v1042 : Int) (v1043 : List Int) (v1044 : List Int) (k0 : Int → List Int → Int → Int → Int → List Int → List Int → Option α) : impl_natDiv_L6 N (n + 1) v1037 v1038 v1039 v1040 v1041 v1042 v1043 v1044 k0 = impl_natDiv_L6r N (fun y0 y1 y2 y3 y4 y5 y6 y7 => impl_natDiv_L6 N n y0 y1 y2 y3 y4 y5 y6 y7 k0) k0 v1037 v1038 v1039 v1040 v1041 v1042 v1043 v1044 := by rw [impl_natDiv_L6.eq]; rfl
noncomputable def impl_natDiv_J34.b {α : Type} (N : Nat) (v1091 : Int) (v1092 : List Int) (v1093 : Int) (v1094 : Int) (v1095 : Int) (v1096 : Int) (v1097 : Int) (v1098 : Int) (v1099 : List Int) (v1100 : Int) (v1101 : Int) (v1102 : List Int) (v1103 : List Int) (k0 : Int → List Int → Int → Int → Int → Int → Int → Int → List Int → Int → Int → List Int → List Int → Option α) : Option α :=
 let x1104 := (decide (v1098 < (0 : Int)))
 bif x1104 then
  let x1105 := IntKind.i64.wrap (0 - v1098)
  let x1106 := (IntKind.i64.wrap (x1105 + (65536 : Int)))
  let x1107 := (IntKind.i64.wrap (x1106 - (1 : Int)))
  let x1108 := (IntKind.i64.wrap (Int.tdiv x1107 (65536 : Int)))
  let x1109 := (IntKind.i64.wrap (x1108 * (65536 : Int)))
  let x1110 := IntKind.i64.wrap (v1098 + x1109)
  k0 v1091 v1092 v1093 v1094 v1095 x1108 v1097 x1110 v1099 v1100 v1101 v1102 v1103
 else
  k0 v1091 v1092 v1093 v1094 v1095 v1096 v1097 v1098 v1099 v1100 v1101 v1102 v1103
theorem impl_natDiv_J34.ex : ∃ f : ((α : Type) → Nat → Int → List Int → Int → Int → Int → Int → Int → Int → List Int → Int → Int → List Int → List Int → (Int → List Int → Int → Int → Int → Int → Int → Int → List Int → Int → Int → List Int → List Int → Option α) → Option α), f = fun α => @impl_natDiv_J34.b α := ⟨_, rfl⟩
noncomputable def impl_natDiv_J34 {α : Type} : Nat → Int → List Int → Int → Int → Int → Int → Int → Int → List Int → Int → Int → List Int → List Int → (Int → List Int → Int → Int → Int → Int → Int → Int → List Int → Int → Int → List Int → List Int → Option α) → Option α := Classical.choose impl_natDiv_J34.ex α
theorem impl_natDiv_J34.eq : @impl_natDiv_J34 = @impl_natDiv_J34.b := funext fun α => congrFun (Classical.choose_spec impl_natDiv_J34.ex) α
noncomputable def impl_natDiv_L8r {α : Type} (N : Nat) (next : Int → List Int → Int → Int → Int → Int → List Int → Int → Int → List Int → List Int → Option α) (k0 : Int → List Int → Int → Int → Int → Int → List Int → List Int → Option α) (v1073 : Int) (v1074 : List Int) (v1075 : Int) (v1076 : Int) (v1077 : Int) (v1078 : Int) (v1079 : List Int) (v1080 : Int) (v1081 : Int) (v1082 : List Int) (v1083 : List Int) : Option α :=
 let x1084 := decide (v1081 < v1080)
 bif x1084 then
  bif (decide (v1081 < (0 : Int))) then
   none
  else
   match v1079[v1081.toNat]? with
   | some x1085 =>
    let x1086 := IntKind.i64.wrap (v1076 + v1081)
    bif (decide (x1086 < (0 : Int))) then
     none
    else
     bif decide (x1086.toNat < v1082.length) then
      match v1082[x1086.toNat]? with
      | some x1087 =>
       let x1088 := IntKind.i64.wrap (x1087 - v1078)
       let x1089 := IntKind.i64.wrap (v1077 * x1085)
       let x1090 := IntKind.i64.wrap (x1088 - x1089)
       impl_natDiv_J34 N v1073 v1074 v1075 v1076 v1077 (0 : Int) v1081 x1090 v1079 v1080 v1081 v1082 v1083
        (fun x1111 x1112 x1113 x1114 x1115 x1116 x1117 x1118 x1119 x1120 x1121 x1122 x1123 =>
         let x1124 := IntKind.i64.wrap (x1114 + x1117)
         bif (decide (x1124 < (0 : Int))) then
          none
         else
          bif decide (x1124.toNat < x1122.length) then
           match x1122[x1124.toNat]? with
           | some x1125 =>
            let x1126 := x1122.set x1124.toNat x1118
            let x1127 := (IntKind.i64.wrap (x1121 + (1 : Int)))
            next x1111 x1112 x1113 x1114 x1115 x1116 x1119 x1120 x1127 x1126 x1123
           | none => none
          else
           none)
      | none => none
     else
      none
   | none => none
 else
  k0 v1073 v1074 v1075 v1076 v1077 v1078 v1082 v1083
noncomputable def impl_natDiv_L8.b {α : Type} (N n : Nat) (v1073 : Int) (v1074 : List Int) (v1075 : Int) (v1076 : Int) (v1077 : Int) (v1078 : Int) (v1079 : List Int) (v1080 : Int) (v1081 : Int) (v1082 : List Int) (v1083 : List Int) (k0 : Int → List Int → Int → Int → Int → Int → List Int → List Int → Option α) : Option α :=
  Nat.rec (motive := fun _ => Int → List Int → Int → Int → Int → Int → List Int → Int → Int → List Int → List Int → Option α) (fun _ _ _ _ _ _ _ _ _ _ _ => none) (fun _ next => impl_natDiv_L8r N next k0) n v1073 v1074 v1075 v1076 v1077 v1078 v1079 v1080 v1081 v1082 v1083
theorem impl_natDiv_L8.ex : ∃ f : ((α : Type) → Nat → Nat → Int → List Int → Int → Int → Int → Int → List Int → Int → Int → List Int → List Int → (Int → List Int → Int → Int → Int → Int → List Int → List Int → Option α) → Option α), f = fun α => @impl_natDiv_L8.b α := ⟨_, rfl⟩
noncomputable def impl_natDiv_L8 {α : Type} : Nat → Nat → Int → List Int → Int → Int → Int → Int → List Int → Int → Int → List Int → List Int → (Int → List Int → Int → Int → Int → Int → List Int → List Int → Option α) → Option α := Classical.choose impl_natDiv_L8.ex α
theorem impl_natDiv_L8.eq : @impl_natDiv_L8 = @impl_natDiv_L8.b := funext fun α => congrFun (Classical.choose_spec impl_natDiv_L8.ex) α
theorem impl_natDiv_L8.zero {α : Type} (N : Nat) (v1073 : Int) (v1074 : List Int) (v1075 : Int) (v1076 : Int) (v1077 : Int) (v1078 : Int) (v1079 : List Int) (v1080 : Int) (v1081 : Int) (v1082 : List Int) (v1083 : List Int) (k0 : Int → List Int → Int → Int → Int → Int → List Int → List Int → Option α) : impl_natDiv_L8 N 0 v1073 v1074 v1075 v1076 v1077 v1078 v1079 v1080 v1081 v1082 v1083 k0 = none := by rw [impl_natDiv_L8.eq]; rfl
theorem impl_natDiv_L8.succ {α : Type} (N n : Nat) (v1073 : Int) (v1074 : List Int) (v1075 : Int) (v1076 : Int) (v1077 : Int) (v1078 : Int) (v1079 : List Int) (v1080 : Int) (v1081 : Int) (v1082 : List Int) (v1083 : List Int) (k0 : Int → List Int → Int → Int → Int → Int → List Int → List Int → Option α) : impl_natDiv_L8 N (n + 1) v1073 v1074 v1075 v1076 v1077 v1078 v1079 v1080 v1081 v1082 v1083 k0 = impl_natDiv_L8r N (fun y0 y1 y2 y3 y4 y5 y6 y7 y8 y9 y10 => impl_natDiv_L8 N n y0 y1 y2 y3 y4 y5 y6 y7 y8 y9 y10 k0) k0 v1073 v1074 v1075 v1076 v1077 v1078 v1079 v1080 v1081 v1082 v1083 := by rw [impl_natDiv_L8.eq]; rfl
noncomputable def impl_natDiv_L10r {α : Type} (N : Nat) (next : Int → List Int → Int → Int → Int → Int → List Int → Int → Int → List Int → List Int → Option α) (k0 : Int → List Int → Int → Int → Int → Int → List Int → List Int → Option α) (v1153 : Int) (v1154 : List Int) (v1155 : Int) (v1156 : Int) (v1157 : Int) (v1158 : Int) (v1159 : List Int) (v1160 : Int) (v1161 : Int) (v1162 : List Int) (v1163 : List Int) : Option α :=
 let x1164 := decide (v1161 < v1160)
 bif x1164 then
  bif (decide (v1161 < (0 : Int))) then
   none
  else
   match v1159[v1161.toNat]? with
   | some x1165 =>
    let x1166 := IntKind.i64.wrap (v1156 + v1161)
    bif (decide (x1166 < (0 : Int))) then
     none
    else
     bif decide (x1166.toNat < v1162.length) then
      match v1162[x1166.toNat]? with
      | some x1167 =>
       let x1168 := IntKind.i64.wrap (x1167 + x1165)
       let x1169 := IntKind.i64.wrap (x1168 + v1158)
       let x1170 := IntKind.i64.wrap (v1156 + v1161)
       let x1171 := (bitI .and .i64 x1169 (65535 : Int))
       let x1172 := (shrI .i64 x1169 (16 : Int))
       bif (decide (x1170 < (0 : Int))) then
        none
       else
        bif decide (x1170.toNat < v1162.length) then
         match v1162[x1170.toNat]? with
         | some x1173 =>
          let x1174 := v1162.set x1170.toNat x1171
          let x1175 := (IntKind.i64.wrap (v1161 + (1 : Int)))
          next v1153 v1154 v1155 v1156 v1157 x1172 v1159 v1160 x1175 x1174 v1163
         | none => none
        else
         none
      | none => none
     else
      none
   | none => none
 else
  k0 v1153 v1154 v1155 v1156 v1157 v1158 v1162 v1163
noncomputable def impl_natDiv_L10.b {α : Type} (N n : Nat) (v1153 : Int) (v1154 : List Int) (v1155 : Int) (v1156 : Int) (v1157 : Int) (v1158 : Int) (v1159 : List Int) (v1160 : Int) (v1161 : Int) (v1162 : List Int) (v1163 : List Int) (k0 : Int → List Int → Int → Int → Int → Int → List Int → List Int → Option α) : Option α :=
  Nat.rec (motive := fun _ => Int → List Int → Int → Int → Int → Int → List Int → Int → Int → List Int → List Int → Option α) (fun _ _ _ _ _ _ _ _ _ _ _ => none) (fun _ next => impl_natDiv_L10r N next k0) n v1153 v1154 v1155 v1156 v1157 v1158 v1159 v1160 v1161 v1162 v1163
theorem impl_natDiv_L10.ex : ∃ f : ((α : Type) → Nat → Nat → Int → List Int → Int → Int → Int → Int → List Int → Int → Int → List Int → List Int → (Int → List Int → Int → Int → Int → Int → List Int → List Int → Option α) → Option α), f = fun α => @impl_natDiv_L10.b α := ⟨_, rfl⟩
noncomputable def impl_natDiv_L10 {α : Type} : Nat → Nat → Int → List Int → Int → Int → Int → Int → List Int → Int → Int → List Int → List Int → (Int → List Int → Int → Int → Int → Int → List Int → List Int → Option α) → Option α := Classical.choose impl_natDiv_L10.ex α
theorem impl_natDiv_L10.eq : @impl_natDiv_L10 = @impl_natDiv_L10.b := funext fun α => congrFun (Classical.choose_spec impl_natDiv_L10.ex) α
theorem impl_natDiv_L10.zero {α : Type} (N : Nat) (v1153 : Int) (v1154 : List Int) (v1155 : Int) (v1156 : Int) (v1157 : Int) (v1158 : Int) (v1159 : List Int) (v1160 : Int) (v1161 : Int) (v1162 : List Int) (v1163 : List Int) (k0 : Int → List Int → Int → Int → Int → Int → List Int → List Int → Option α) : impl_natDiv_L10 N 0 v1153 v1154 v1155 v1156 v1157 v1158 v1159 v1160 v1161 v1162 v1163 k0 = none := by rw [impl_natDiv_L10.eq]; rfl
theorem impl_natDiv_L10.succ {α : Type} (N n : Nat) (v1153 : Int) (v1154 : List Int) (v1155 : Int) (v1156 : Int) (v1157 : Int) (v1158 : Int) (v1159 : List Int) (v1160 : Int) (v1161 : Int) (v1162 : List Int) (v1163 : List Int) (k0 : Int → List Int → Int → Int → Int → Int → List Int → List Int → Option α) : impl_natDiv_L10 N (n + 1) v1153 v1154 v1155 v1156 v1157 v1158 v1159 v1160 v1161 v1162 v1163 k0 = impl_natDiv_L10r N (fun y0 y1 y2 y3 y4 y5 y6 y7 y8 y9 y10 => impl_natDiv_L10 N n y0 y1 y2 y3 y4 y5 y6 y7 y8 y9 y10 k0) k0 v1153 v1154 v1155 v1156 v1157 v1158 v1159 v1160 v1161 v1162 v1163 := by rw [impl_natDiv_L10.eq]; rfl
noncomputable def impl_natDiv_J40.b {α : Type} (N : Nat) (v1141 : Int) (v1142 : List Int) (v1143 : Int) (v1144 : Int) (v1145 : Int) (v1146 : List Int) (v1147 : List Int) (k0 : Int → List Int → Int → Int → Int → List Int → List Int → Option α) : Option α :=
 let x1148 := IntKind.i64.wrap (v1144 + v1143)
 bif (decide (x1148 < (0 : Int))) then
  none
 else
  bif decide (x1148.toNat < v1146.length) then
   match v1146[x1148.toNat]? with
   | some x1149 =>
    let x1150 := (decide (x1149 < (0 : Int)))
    bif x1150 then
     let x1151 := (IntKind.i64.wrap (v1145 - (1 : Int)))
     let x1152 := ((v1142.length : Nat) : Int)
     impl_natDiv_L10 N N v1141 v1142 v1143 v1144 x1151 (0 : Int) v1142 x1152 (0 : Int) v1146 v1147
      (fun x1176 x1177 x1178 x1179 x1180 x1181 x1182 x1183 =>
       let x1184 := IntKind.i64.wrap (x1179 + x1178)
       bif (decide (x1184 < (0 : Int))) then
        none
       else
        bif decide (x1184.toNat < x1182.length) then
         match x1182[x1184.toNat]? with
         | some x1185 =>
          let x1186 := IntKind.i64.wrap (x1185 + x1181)
          bif (decide (x1184 < (0 : Int))) then
           none
          else
           bif decide (x1184.toNat < x1182.length) then
            match x1182[x1184.toNat]? with
            | some x1187 =>
             let x1188 := x1182.set x1184.toNat x1186
             k0 x1176 x1177 x1178 x1179 x1180 x1188 x1183
            | none => none
           else
            none
         | none => none
        else
         none)
    else
     k0 v1141 v1142 v1143 v1144 v1145 v1146 v1147
   | none => none
  else
   none
theorem impl_natDiv_J40.ex : ∃ f : ((α : Type) → Nat → Int → List Int → Int → Int → Int → List Int → List Int → (Int → List Int → Int → Int → Int → List Int → List Int → Option α) → Option α), f = fun α => @impl_natDiv_J40.b α := ⟨_, rfl⟩
noncomputable def impl_natDiv_J40 {α : Type} : Nat → Int → List Int → Int → Int → Int → List Int → List Int → (Int → List Int → Int → Int → Int → List Int → List Int → Option α) → Option α := Classical.choose impl_natDiv_J40.ex α
theorem impl_natDiv_J40.eq : @impl_natDiv_J40 = @impl_natDiv_J40.b := funext fun α => congrFun (Classical.choose_spec impl_natDiv_J40.ex) α
noncomputable def impl_natDiv_L4r {α : Type} (N : Nat) (next : Int → List Int → Int → Int → List Int → List Int → Option α) (k0 : Int → List Int → List Int → Option α) (v1017 : Int) (v1018 : List Int) (v1019 : Int) (v1020 : Int) (v1021 : List Int) (v1022 : List Int) : Option α :=
 let x1023 := (decide ((0 : Int) ≤ v1020))
 bif x1023 then
  let x1024 := IntKind.i64.wrap (v1020 + v1019)
  bif (decide (x1024 < (0 : Int))) then
   none
  else
   bif decide (x1024.toNat < v1021.length) then
    match v1021[x1024.toNat]? with
    | some x1025 =>
     let x1026 := (shlI .i64 x1025 (16 : Int))
     let x1027 := IntKind.i64.wrap (v1020 + v1019)
     let x1028 := (IntKind.i64.wrap (x1027 - (1 : Int)))
     bif (decide (x1028 < (0 : Int))) then
      none
     else
      bif decide (x1028.toNat < v1021.length) then
       match v1021[x1028.toNat]? with
       | some x1029 =>
        let x1030 := bitI .or .i64 x1026 x1029
        let x1031 := (IntKind.i64.wrap (v1019 - (1 : Int)))
        bif (decide (x1031 < (0 : Int))) then
         none
        else
         match v1018[x1031.toNat]? with
         | some x1032 =>
          bif (decide (x1032 = (0 : Int))) then
           none
          else
           let x1033 := IntKind.i64.wrap (Int.tdiv x1030 x1032)
           let x1034 := (IntKind.i64.wrap (v1019 - (1 : Int)))
           bif (decide (x1034 < (0 : Int))) then
            none
           else
            match v1018[x1034.toNat]? with
            | some x1035 =>
             bif (decide (x1035 = (0 : Int))) then
              none
             else
              let x1036 := Int.tmod x1030 x1035
              impl_natDiv_L6 N N v1017 v1018 v1019 v1020 x1033 x1036 v1021 v1022
               (fun x1065 x1066 x1067 x1068 x1069 x1070 x1071 =>
                let x1072 := ((x1066.length : Nat) : Int)
                impl_natDiv_L8 N N x1065 x1066 x1067 x1068 x1069 (0 : Int) x1066 x1072 (0 : Int) x1070 x1071
                 (fun x1128 x1129 x1130 x1131 x1132 x1133 x1134 x1135 =>
                  let x1136 := IntKind.i64.wrap (x1131 + x1130)
                  bif (decide (x1136 < (0 : Int))) then
                   none
                  else
                   bif decide (x1136.toNat < x1134.length) then
                    match x1134[x1136.toNat]? with
                    | some x1137 =>
                     let x1138 := IntKind.i64.wrap (x1137 - x1133)
                     bif (decide (x1136 < (0 : Int))) then
                      none
                     else
                      bif decide (x1136.toNat < x1134.length) then
                       match x1134[x1136.toNat]? with
                       | some x1139 =>
                        let x1140 := x1134.set x1136.toNat x1138
                        impl_natDiv_J40 N x1128 x1129 x1130 x1131 x1132 x1140 x1135
                         (fun x1189 x1190 x1191 x1192 x1193 x1194 x1195 =>
                          bif (decide (x1192 < (0 : Int))) then
                           none
                          else
                           bif decide (x1192.toNat < x1195.length) then
                            match x1195[x1192.toNat]? with
                            | some x1196 =>
                             let x1197 := x1195.set x1192.toNat x1193
                             let x1198 := (IntKind.i64.wrap (x1192 - (1 : Int)))
                             next x1189 x1190 x1191 x1198 x1194 x1197
                            | none => none
                           else
                            none)
                       | none => none
                      else
                       none
                    | none => none
                   else
                    none))
            | none => none
         | none => none
       | none => none
      else
       none
    | none => none
   else
    none
 else
  k0 v1017 v1021 v1022
noncomputable def impl_natDiv_L4.b {α : Type} (N n : Nat) (v1017 : Int) (v1018 : List Int) (v1019 : Int) (v1020 : Int) (v1021 : List Int) (v1022 : List Int) (k0 : Int → List Int → List Int → Option α) : Option α :=
  Nat.rec (motive := fun _ => Int → List Int → Int → Int → List Int → List Int → Option α) (fun _ _ _ _ _ _ => none) (fun _ next => impl_natDiv_L4r N next k0) n v1017 v1018 v1019 v1020 v1021 v1022
theorem impl_natDiv_L4.ex : ∃ f : ((α : Type) → Nat → Nat → Int → List Int → Int → Int → List Int → List Int → (Int → List Int → List Int → Option α) → Option α), f = fun α => @impl_natDiv_L4.b α := ⟨_, rfl⟩
noncomputable def impl_natDiv_L4 {α : Type} : Nat → Nat → Int → List Int → Int → Int → List Int → List Int → (Int → List Int → List Int → Option α) → Option α := Classical.choose impl_natDiv_L4.ex α
theorem impl_natDiv_L4.eq : @impl_natDiv_L4 = @impl_natDiv_L4.b := funext fun α => congrFun (Classical.choose_spec impl_natDiv_L4.ex) α
theorem impl_natDiv_L4.zero {α : Type} (N : Nat) (v1017 : Int) (v1018 : List Int) (v1019 : Int) (v1020 : Int) (v1021 : List Int) (v1022 : List Int) (k0 : Int → List Int → List Int → Option α) : impl_natDiv_L4 N 0 v1017 v1018 v1019 v1020 v1021 v1022 k0 = none := by rw [impl_natDiv_L4.eq]; rfl
theorem impl_natDiv_L4.succ {α : Type} (N n : Nat) (v1017 : Int) (v1018 : List Int) (v1019 : Int) (v1020 : Int) (v1021 : List Int) (v1022 : List Int) (k0 : Int → List Int → List Int → Option α) : impl_natDiv_L4 N (n + 1) v1017 v1018 v1019 v1020 v1021 v1022 k0 = impl_natDiv_L4r N (fun y0 y1 y2 y3 y4 y5 => impl_natDiv_L4 N n y0 y1 y2 y3 y4 y5 k0) k0 v1017 v1018 v1019 v1020 v1021 v1022 := by rw [impl_natDiv_L4.eq]; rfl
/-- impl.natDiv -/
noncomputable def impl_natDiv.b {α : Type} (N : Nat) (a750 : List Int) (a751 : List Int) (k0 : List Int → List Int → Option α) : Option α :=
 impl_natCmp N a750 a751
  (fun x778 =>
   let x779 := (decide (x778 < (0 : Int)))
   bif x779 then
    k0 [] a750
   else
    let x780 := ((a751.length : Nat) : Int)
    let x781 := (decide (x780 = (1 : Int)))
    bif x781 then
     let x782 := ((a750.length : Nat) : Int)
     bif (decide ((0 : Int) ≤ x782)) then
      bif decide (x782 ≤ x782) then
       bif (decide (x782 ≤ ((8796093022208 : Nat) : Int))) then
        let x783 := (List.replicate x782.toNat (0 : Int))
        let x784 := ((a750.length : Nat) : Int)
        let x785 := (IntKind.i64.wrap (x784 - (1 : Int)))
        impl_natDiv_L0 N N a750 a751 (0 : Int) x785 x783
         (fun x802 x803 =>
          impl_trim N x803
           (fun x816 =>
            let x817 := [x802]
            impl_trim N x817
             (fun x818 =>
              k0 x816 x818)))
       else
        none
      else
       none
     else
      none
    else
     let x819 := ((a751.length : Nat) : Int)
     let x820 := (IntKind.i64.wrap (x819 - (1 : Int)))
     bif (decide (x820 < (0 : Int))) then
      none
     else
      match a751[x820.toNat]? with
      | some x821 =>
       let x822 := IntKind.u64.wrap x821
       math_bits_Len N x822
        (fun x851 =>
         let x852 := (IntKind.i64.wrap ((16 : Int) - x851))
         impl_natShift N a751 x852
          (fun x990 =>
           impl_natShift N a750 x852
            (fun x991 =>
             slices_Clone_int_int N x991
              (fun x992 =>
               let x993 := [(0 : Int)]
               bif decide (x992.length + x993.length ≤ 8796093022208) then
                let x994 := x992 ++ x993
                let x995 := ((x990.length : Nat) : Int)
                impl_natDiv_L2 N N a750 x852 x990 x995 x994
                 (fun x1007 x1008 x1009 x1010 =>
                  let x1011 := ((x1010.length : Nat) : Int)
                  let x1012 := IntKind.i64.wrap (x1011 - x1009)
                  bif (decide ((0 : Int) ≤ x1012)) then
                   bif decide (x1012 ≤ x1012) then
                    bif (decide (x1012 ≤ ((8796093022208 : Nat) : Int))) then
                     let x1013 := (List.replicate x1012.toNat (0 : Int))
                     let x1014 := ((x1010.length : Nat) : Int)
                     let x1015 := IntKind.i64.wrap (x1014 - x1009)
                     let x1016 := (IntKind.i64.wrap (x1015 - (1 : Int)))
                     impl_natDiv_L4 N N x1007 x1008 x1009 x1016 x1010 x1013
                      (fun x1199 x1200 x1201 =>
                       impl_trim N x1201
                        (fun x1202 =>
                         impl_trim N x1200
                          (fun x1203 =>
                           let x1204 := IntKind.i64.wrap (0 - x1199)
                           impl_natShift N x1203 x1204
                            (fun x1205 =>
                             k0 x1202 x1205))))
                    else
                     none
                   else
                    none
                  else
                   none)
               else
                none))))
      | none => none)
theorem impl_natDiv.ex : ∃ f : ((α : Type) → Nat → List Int → List Int → (List Int → List Int → Option α) → Option α), f = fun α => @impl_natDiv.b α := ⟨_, rfl⟩
noncomputable def impl_natDiv {α : Type} : Nat → List Int → List Int → (List Int → List Int → Option α) → Option α := Classical.choose impl_natDiv.ex α
theorem impl_natDiv.eq : @impl_natDiv = @impl_natDiv.b := funext fun α => congrFun (Classical.choose_spec impl_natDiv.ex) α

noncomputable def impl_natGcd_L0r {α : Type} (N : Nat) (next : List Int → List Int → Option α) (k0 : List Int → Option α) (v677 : List Int) (v678 : List Int) : Option α :=
 let x679 := ((v678.length : Nat) : Int)
 let x680 := (decide ((0 : Int) < x679))
 bif x680 then
  impl_natDiv N v677 v678
   (fun _ x1207 =>
    next v678 x1207)
 else
  k0 v677
noncomputable def impl_natGcd_L0.b {α : Type} (N n : Nat) (v677 : List Int) (v678 : List Int) (k0 : List Int → Option α) : Option α :=
  Nat.rec (motive := fun _ => List Int → List Int → Option α) (fun _ _ => none) (fun _ next => impl_natGcd_L0r N next k0) n v677 v678
theorem impl_natGcd_L0.ex : ∃ f : ((α : Type) → Nat → Nat → List Int → List Int → (List Int → Option α) → Option α), f = fun α => @impl_natGcd_L0.b α := ⟨_, rfl⟩
noncomputable def impl_natGcd_L0 {α : Type} : Nat → Nat → List Int → List Int → (List Int → Option α) → Option α := Classical.choose impl_natGcd_L0.ex α
theorem impl_natGcd_L0.eq : @impl_natGcd_L0 = @impl_natGcd_L0.b := funext fun α => congrFun (Classical.choose_spec impl_natGcd_L0.ex) α
theorem impl_natGcd_L0.zero {α : Type} (N : Nat) (v677 : List Int) (v678 : List Int) (k0 : List Int → Option α) : impl_natGcd_L0 N 0 v677 v678 k0 = none := by rw [impl_natGcd_L0.eq]; rfl
theorem impl_natGcd_L0.succ {α : Type} (N n : Nat) (v677 : List Int) (v678 : List Int) (k0 : List Int → Option α) : impl_natGcd_L0 N (n + 1) v677 v678 k0 = impl_natGcd_L0r N (fun y0 y1 => impl_natGcd_L0 N n y0 y1 k0) k0 v677 v678 := by rw [impl_natGcd_L0.eq]; rfl
/-- impl.natGcd -/
noncomputable def impl_natGcd.b {α : Type} (N : Nat) (a675 : List Int) (a676 : List Int) (k0 : List Int → Option α) : Option α :=
 impl_natGcd_L0 N N a675 a676
  (fun x1208 =>
   k0 x1208)
theorem impl_natGcd.ex : ∃ f : ((α : Type) → Nat → List Int → List Int → (List Int → Option α) → Option α), f = fun α => @impl_natGcd.b α := ⟨_, rfl⟩
noncomputable def impl_natGcd {α : Type} : Nat → List Int → List Int → (List Int → Option α) → Option α := Classical.choose impl_natGcd.ex α
theorem impl_natGcd.eq : @impl_natGcd = @impl_natGcd.b := funext fun α => congrFun (Classical.choose_spec impl_natGcd.ex) α

/-- impl.FracOk -/
noncomputable def impl_FracOk.b {α : Type} (N : Nat) (a615 : Bool × (List Int) × (List Int) × Unit) (k0 : Bool → Option α) : Option α :=
 let x616 := [a615.2.1, a615.2.2.1]
 impl_nats N x616
  (fun x670 =>
   bif x670 then
    let x671 := ((a615.2.2.1.length : Nat) : Int)
    let x672 := (decide ((0 : Int) < x671))
    bif x672 then
     let x673 := ((a615.2.1.length : Nat) : Int)
     let x674 := (decide ((0 : Int) < x673))
     bif x674 then
      impl_natGcd N a615.2.1 a615.2.2.1
       (fun x1209 =>
        let x1210 := [(1 : Int)]
        impl_natCmp N x1209 x1210
         (fun x1211 =>
          let x1212 := (decide (x1211 = (0 : Int)))
          k0 x1212))
     else
      let x1213 := !a615.1
      bif x1213 then
       impl_natGcd N a615.2.1 a615.2.2.1
        (fun x1214 =>
         let x1215 := [(1 : Int)]
         impl_natCmp N x1214 x1215
          (fun x1216 =>
           let x1217 := (decide (x1216 = (0 : Int)))
           k0 x1217))
      else
       k0 false
    else
     k0 false
   else
    k0 false)
theorem impl_FracOk.ex : ∃ f : ((α : Type) → Nat → (Bool × (List Int) × (List Int) × Unit) → (Bool → Option α) → Option α), f = fun α => @impl_FracOk.b α := ⟨_, rfl⟩
noncomputable def impl_FracOk {α : Type} : Nat → (Bool × (List Int) × (List Int) × Unit) → (Bool → Option α) → Option α := Classical.choose impl_FracOk.ex α
theorem impl_FracOk.eq : @impl_FracOk = @impl_FracOk.b := funext fun α => congrFun (Classical.choose_spec impl_FracOk.ex) α

/-- impl.floated -/
noncomputable def impl_floated.b {α : Type} (N : Nat) (a608 : Int) (a609 : Bool × (List Int) × (List Int) × Unit) (k0 : Bool → Option α) : Option α :=
 impl_formatOf N a608
  (fun _ x614 =>
   bif x614 then
    impl_FracOk N a609
     (fun x1218 =>
      k0 x1218)
   else
    k0 false)
theorem impl_floated.ex : ∃ f : ((α : Type) → Nat → Int → (Bool × (List Int) × (List Int) × Unit) → (Bool → Option α) → Option α), f = fun α => @impl_floated.b α := ⟨_, rfl⟩
noncomputable def impl_floated {α : Type} : Nat → Int → (Bool × (List Int) × (List Int) × Unit) → (Bool → Option α) → Option α := Classical.choose impl_floated.ex α
theorem impl_floated.eq : @impl_floated = @impl_floated.b := funext fun α => congrFun (Classical.choose_spec impl_floated.ex) α

/-- impl.natBits -/
noncomputable def impl_natBits.b {α : Type} (N : Nat) (a1230 : List Int) (k0 : Int → Option α) : Option α :=
 let x1231 := ((a1230.length : Nat) : Int)
 let x1232 := (decide (x1231 = (0 : Int)))
 bif x1232 then
  k0 (0 : Int)
 else
  let x1233 := ((a1230.length : Nat) : Int)
  let x1234 := (IntKind.i64.wrap (x1233 - (1 : Int)))
  let x1235 := (IntKind.i64.wrap ((16 : Int) * x1234))
  let x1236 := ((a1230.length : Nat) : Int)
  let x1237 := (IntKind.i64.wrap (x1236 - (1 : Int)))
  bif (decide (x1237 < (0 : Int))) then
   none
  else
   match a1230[x1237.toNat]? with
   | some x1238 =>
    let x1239 := IntKind.u64.wrap x1238
    math_bits_Len N x1239
     (fun x1240 =>
      let x1241 := IntKind.i64.wrap (x1235 + x1240)
      k0 x1241)
   | none => none
theorem impl_natBits.ex : ∃ f : ((α : Type) → Nat → List Int → (Int → Option α) → Option α), f = fun α => @impl_natBits.b α := ⟨_, rfl⟩
noncomputable def impl_natBits {α : Type} : Nat → List Int → (Int → Option α) → Option α := Classical.choose impl_natBits.ex α
theorem impl_natBits.eq : @impl_natBits = @impl_natBits.b := funext fun α => congrFun (Classical.choose_spec impl_natBits.ex) α

-- prim math_bits_TrailingZeros64
noncomputable def impl_BitMake_J14.b {α : Type} (N : Nat) (v1327 : Int) (v1328 : Int) (v1329 : Int) (v1330 : Int) (v1331 : Bool × Int × Int × Unit) (v1332 : Int × Int × Int × Int × Unit) (k0 : Int → (Bool × Int × Int × Unit) → Option α) : Option α :=
 let x1333 := (decide ((1 : Int) ≤ v1330))
 bif x1333 then
  bif (decide (v1332.1 < (0 : Int))) then
   none
  else
   let x1334 := shlI .i64 v1330 v1332.1
   let x1335 := (IntKind.i64.wrap (v1332.1 + (1 : Int)))
   let x1336 := IntKind.i64.wrap (x1335 - v1329)
   bif (decide (x1336 < (0 : Int))) then
    none
   else
    let x1337 := shlI .u64 v1327 x1336
    let x1338 := IntKind.i64.wrap x1337
    bif (decide (v1332.1 < (0 : Int))) then
     none
    else
     let x1339 := (shlI .i64 (1 : Int) v1332.1)
     let x1340 := (IntKind.i64.wrap (x1339 - (1 : Int)))
     let x1341 := bitI .and .i64 x1338 x1340
     let x1342 := bitI .or .i64 x1334 x1341
     k0 x1342 v1331
 else
  let x1343 := IntKind.i64.wrap (v1328 - v1332.2.1)
  bif (decide (x1343 < (0 : Int))) then
   none
  else
   let x1344 := shlI .u64 v1327 x1343
   let x1345 := IntKind.i64.wrap x1344
   k0 x1345 v1331
theorem impl_BitMake_J14.ex : ∃ f : ((α : Type) → Nat → Int → Int → Int → Int → (Bool × Int × Int × Unit) → (Int × Int × Int × Int × Unit) → (Int → (Bool × Int × Int × Unit) → Option α) → Option α), f = fun α => @impl_BitMake_J14.b α := ⟨_, rfl⟩
noncomputable def impl_BitMake_J14 {α : Type} : Nat → Int → Int → Int → Int → (Bool × Int × Int × Unit) → (Int × Int × Int × Int × Unit) → (Int → (Bool × Int × Int × Unit) → Option α) → Option α := Classical.choose impl_BitMake_J14.ex α
theorem impl_BitMake_J14.eq : @impl_BitMake_J14 = @impl_BitMake_J14.b := funext fun α => congrFun (Classical.choose_spec impl_BitMake_J14.ex) α
noncomputable def impl_BitMake_J17.b {α : Type} (N : Nat) (v1348 : Int) (v1349 : Bool × Int × Int × Unit) (k0 : Int → Option α) : Option α :=
 bif v1349.1 then
  let x1350 := IntKind.i64.wrap (0 - v1348)
  k0 x1350
 else
  k0 v1348
theorem impl_BitMake_J17.ex : ∃ f : ((α : Type) → Nat → Int → (Bool × Int × Int × Unit) → (Int → Option α) → Option α), f = fun α => @impl_BitMake_J17.b α := ⟨_, rfl⟩
noncomputable def impl_BitMake_J17 {α : Type} : Nat → Int → (Bool × Int × Int × Unit) → (Int → Option α) → Option α := Classical.choose impl_BitMake_J17.ex α
theorem impl_BitMake_J17.eq : @impl_BitMake_J17 = @impl_BitMake_J17.b := funext fun α => congrFun (Classical.choose_spec impl_BitMake_J17.ex) α
/-- impl.BitMake -/
noncomputable def impl_BitMake.b {α : Type} (N : Nat) (a1308 : Int) (a1309 : Bool × Int × Int × Unit) (k0 : Int → Bool → Option α) : Option α :=
 impl_formatOf N a1308
  (fun x1310 x1311 =>
   let x1312 := !x1311
   bif x1312 then
    k0 (0 : Int) false
   else
    impl_in N a1309.2.2.1 (-2000 : Int) (2000 : Int)
     (fun x1313 =>
      let x1314 := !x1313
      bif x1314 then
       k0 (0 : Int) false
      else
       let x1315 := (decide (a1309.2.1 = (0 : Int)))
       bif x1315 then
        k0 (0 : Int) true
       else
        math_bits_TrailingZeros64 N a1309.2.1
         (fun x1316 =>
          bif (decide (x1316 < (0 : Int))) then
           none
          else
           let x1317 := shrI .u64 a1309.2.1 x1316
           let x1318 := IntKind.i64.wrap (a1309.2.2.1 + x1316)
           math_bits_Len64 N x1317
            (fun x1319 =>
             let x1320 := IntKind.i64.wrap (x1318 + x1319)
             let x1321 := (IntKind.i64.wrap (x1320 - (1 : Int)))
             let x1322 := (IntKind.i64.wrap (x1310.1 + (1 : Int)))
             let x1323 := decide (x1322 < x1319)
             bif x1323 then
              k0 (0 : Int) false
             else
              let x1324 := decide (x1318 < x1310.2.1)
              bif x1324 then
               k0 (0 : Int) false
              else
               let x1325 := decide (x1310.2.2.1 < x1321)
               bif x1325 then
                k0 (0 : Int) false
               else
                let x1326 := IntKind.i64.wrap (x1321 + x1310.2.2.1)
                impl_BitMake_J14 N x1317 x1318 x1319 x1326 a1309 x1310
                 (fun x1346 x1347 =>
                  impl_BitMake_J17 N x1346 x1347
                   (fun x1351 =>
                    k0 x1351 true))))))
theorem impl_BitMake.ex : ∃ f : ((α : Type) → Nat → Int → (Bool × Int × Int × Unit) → (Int → Bool → Option α) → Option α), f = fun α => @impl_BitMake.b α := ⟨_, rfl⟩
noncomputable def impl_BitMake {α : Type} : Nat → Int → (Bool × Int × Int × Unit) → (Int → Bool → Option α) → Option α := Classical.choose impl_BitMake.ex α
theorem impl_BitMake.eq : @impl_BitMake = @impl_BitMake.b := funext fun α => congrFun (Classical.choose_spec impl_BitMake.ex) α

noncomputable def impl_truncated_J7.b {α : Type} (N : Nat) (v1247 : Int) (v1248 : Int) (v1249 : Int) (v1250 : List Int) (v1251 : List Int) (v1252 : Int × Int × Int × Int × Unit) (k0 : Int → Int → Int → List Int → List Int → (Int × Int × Int × Int × Unit) → Option α) : Option α :=
 let x1253 := (decide (v1249 < (0 : Int)))
 bif x1253 then
  let x1254 := IntKind.i64.wrap (0 - v1249)
  impl_natShift N v1250 x1254
   (fun x1255 =>
    k0 v1247 v1248 v1249 x1255 v1251 v1252)
 else
  impl_natShift N v1251 v1249
   (fun x1256 =>
    k0 v1247 v1248 v1249 v1250 x1256 v1252)
theorem impl_truncated_J7.ex : ∃ f : ((α : Type) → Nat → Int → Int → Int → List Int → List Int → (Int × Int × Int × Int × Unit) → (Int → Int → Int → List Int → List Int → (Int × Int × Int × Int × Unit) → Option α) → Option α), f = fun α => @impl_truncated_J7.b α := ⟨_, rfl⟩
noncomputable def impl_truncated_J7 {α : Type} : Nat → Int → Int → Int → List Int → List Int → (Int × Int × Int × Int × Unit) → (Int → Int → Int → List Int → List Int → (Int × Int × Int × Int × Unit) → Option α) → Option α := Classical.choose impl_truncated_J7.ex α
theorem impl_truncated_J7.eq : @impl_truncated_J7 = @impl_truncated_J7.b := funext fun α => congrFun (Classical.choose_spec impl_truncated_J7.ex) α
noncomputable def impl_truncated_J12.b {α : Type} (N : Nat) (v1267 : Int) (v1268 : Int) (v1269 : Int) (v1270 : List Int) (v1271 : Bool) (v1272 : Int × Int × Int × Int × Unit) (k0 : Int → Int → List Int → Bool → (Int × Int × Int × Int × Unit) → Option α) : Option α :=
 impl_natBits N v1270
  (fun x1273 =>
   let x1274 := decide (v1268 < x1273)
   bif x1274 then
    bif v1271 then
     match v1270[0]? with
     | some x1275 =>
      let x1276 := (bitI .and .i64 x1275 (1 : Int))
      let x1277 := (decide (x1276 = (0 : Int)))
      impl_natShift N v1270 (-1 : Int)
       (fun x1278 =>
        let x1279 := (IntKind.i64.wrap (v1269 + (1 : Int)))
        k0 v1267 x1279 x1278 x1277 v1272)
     | none => none
    else
     impl_natShift N v1270 (-1 : Int)
      (fun x1280 =>
       let x1281 := (IntKind.i64.wrap (v1269 + (1 : Int)))
       k0 v1267 x1281 x1280 false v1272)
   else
    k0 v1267 v1269 v1270 v1271 v1272)
theorem impl_truncated_J12.ex : ∃ f : ((α : Type) → Nat → Int → Int → Int → List Int → Bool → (Int × Int × Int × Int × Unit) → (Int → Int → List Int → Bool → (Int × Int × Int × Int × Unit) → Option α) → Option α), f = fun α => @impl_truncated_J12.b α := ⟨_, rfl⟩
noncomputable def impl_truncated_J12 {α : Type} : Nat → Int → Int → Int → List Int → Bool → (Int × Int × Int × Int × Unit) → (Int → Int → List Int → Bool → (Int × Int × Int × Int × Unit) → Option α) → Option α := Classical.choose impl_truncated_J12.ex α
theorem impl_truncated_J12.eq : @impl_truncated_J12 = @impl_truncated_J12.b := funext fun α => congrFun (Classical.choose_spec impl_truncated_J12.ex) α
noncomputable def impl_truncated_L0r {α : Type} (N : Nat) (next : Int → Int → Bool → Int → List Int → Int → Int → (Int × Int × Int × Int × Unit) → Option α) (k0 : Int → Int → Bool → Int → (Int × Int × Int × Int × Unit) → Option α) (v1288 : Int) (v1289 : Int) (v1290 : Bool) (v1291 : Int) (v1292 : List Int) (v1293 : Int) (v1294 : Int) (v1295 : Int × Int × Int × Int × Unit) : Option α :=
 let x1296 := decide (v1294 < v1293)
 bif x1296 then
  bif (decide (v1294 < (0 : Int))) then
   none
  else
   match v1292[v1294.toNat]? with
   | some x1297 =>
    let x1298 := IntKind.u64.wrap x1297
    let x1299 := (IntKind.i64.wrap ((16 : Int) * v1294))
    bif (decide (x1299 < (0 : Int))) then
     none
    else
     let x1300 := shlI .u64 x1298 x1299
     let x1301 := bitI .or .u64 v1291 x1300
     let x1302 := (IntKind.i64.wrap (v1294 + (1 : Int)))
     next v1288 v1289 v1290 x1301 v1292 v1293 x1302 v1295
   | none => none
 else
  k0 v1288 v1289 v1290 v1291 v1295
noncomputable def impl_truncated_L0.b {α : Type} (N n : Nat) (v1288 : Int) (v1289 : Int) (v1290 : Bool) (v1291 : Int) (v1292 : List Int) (v1293 : Int) (v1294 : Int) (v1295 : Int × Int × Int × Int × Unit) (k0 : Int → Int → Bool → Int → (Int × Int × Int × Int × Unit) → Option α) : Option α :=
  Nat.rec (motive := fun _ => Int → Int → Bool → Int → List Int → Int → Int → (Int × Int × Int × Int × Unit) → Option α) (fun _ _ _ _ _ _ _ _ => none) (fun _ next => impl_truncated_L0r N next k0) n v1288 v1289 v1290 v1291 v1292 v1293 v1294 v1295
theorem impl_truncated_L0.ex : ∃ f : ((α : Type) → Nat → Nat → Int → Int → Bool → Int → List Int → Int → Int → (Int × Int × Int × Int × Unit) → (Int → Int → Bool → Int → (Int × Int × Int × Int × Unit) → Option α) → Option α), f = fun α => @impl_truncated_L0.b α := ⟨_, rfl⟩
noncomputable def impl_truncated_L0 {α : Type} : Nat → Nat → Int → Int → Bool → Int → List Int → Int → Int → (Int × Int × Int × Int × Unit) → (Int → Int → Bool → Int → (Int × Int × Int × Int × Unit) → Option α) → Option α := Classical.choose impl_truncated_L0.ex α
theorem impl_truncated_L0.eq : @impl_truncated_L0 = @impl_truncated_L0.b := funext fun α => congrFun (Classical.choose_spec impl_truncated_L0.ex) α
theorem impl_truncated_L0.zero {α : Type} (N : Nat) (v1288 : Int) (v1289 : Int) (v1290 : Bool) (v1291 : Int) (v1292 : List Int) (v1293 : Int) (v1294 : Int) (v1295 : Int × Int × Int × Int × Unit) (k0 : Int → Int → Bool → Int → (Int × Int × Int × Int × Unit) → Option α) : impl_truncated_L0 N 0 v1288 v1289 v1290 v1291 v1292 v1293 v1294 v1295 k0 = none := by rw [impl_truncated_L0.eq]; rfl
theorem impl_truncated_L0.succ {α : Type} (N n : Nat) (v1288 : Int) (v1289 : Int) (v1290 : Bool) (v1291 : Int) (v1292 : List Int) (v1293 : Int) (v1294 : Int) (v1295 : Int × Int × Int × Int × Unit) (k0 : Int → Int → Bool → Int → (Int × Int × Int × Int × Unit) → Option α) : impl_truncated_L0 N (n + 1) v1288 v1289 v1290 v1291 v1292 v1293 v1294 v1295 k0 = impl_truncated_L0r N (fun y0 y1 y2 y3 y4 y5 y6 y7 => impl_truncated_L0 N n y0 y1 y2 y3 y4 y5 y6 y7 k0) k0 v1288 v1289 v1290 v1291 v1292 v1293 v1294 v1295 := by rw [impl_truncated_L0.eq]; rfl
/-- impl.truncated -/
noncomputable def impl_truncated.b {α : Type} (N : Nat) (a1223 : Int) (a1224 : Bool × (List Int) × (List Int) × Unit) (k0 : Int → Bool → Option α) : Option α :=
 impl_formatOf N a1223
  (fun x1225 _ =>
   let x1227 := ((a1224.2.1.length : Nat) : Int)
   let x1228 := (decide (x1227 = (0 : Int)))
   bif x1228 then
    k0 (0 : Int) true
   else
    let x1229 := (IntKind.i64.wrap (x1225.1 + (1 : Int)))
    impl_natBits N a1224.2.1
     (fun x1242 =>
      impl_natBits N a1224.2.2.1
       (fun x1243 =>
        let x1244 := IntKind.i64.wrap (x1242 - x1243)
        let x1245 := IntKind.i64.wrap (x1244 - x1229)
        let x1246 := maxI x1225.2.1 x1245
        impl_truncated_J7 N a1223 x1229 x1246 a1224.2.1 a1224.2.2.1 x1225
         (fun x1257 x1258 x1259 x1260 x1261 x1262 =>
          impl_natDiv N x1260 x1261
           (fun x1263 x1264 =>
            let x1265 := ((x1264.length : Nat) : Int)
            let x1266 := (decide (x1265 = (0 : Int)))
            impl_truncated_J12 N x1257 x1258 x1259 x1263 x1266 x1262
             (fun x1282 x1283 x1284 x1285 x1286 =>
              let x1287 := ((x1284.length : Nat) : Int)
              impl_truncated_L0 N N x1282 x1283 x1285 (0 : Int) x1284 x1287 (0 : Int) x1286
               (fun x1303 x1304 x1305 x1306 x1307 =>
                impl_BitMake N x1303 (false, (x1306, (x1304, ())))
                 (fun x1352 x1353 =>
                  let x1354 := !x1353
                  bif x1354 then
                   let x1355 := (IntKind.i64.wrap (x1307.2.2.2.1 - (1 : Int)))
                   k0 x1355 false
                  else
                   k0 x1352 x1305))))))))
theorem impl_truncated.ex : ∃ f : ((α : Type) → Nat → Int → (Bool × (List Int) × (List Int) × Unit) → (Int → Bool → Option α) → Option α), f = fun α => @impl_truncated.b α := ⟨_, rfl⟩
noncomputable def impl_truncated {α : Type} : Nat → Int → (Bool × (List Int) × (List Int) × Unit) → (Int → Bool → Option α) → Option α := Classical.choose impl_truncated.ex α
theorem impl_truncated.eq : @impl_truncated = @impl_truncated.b := funext fun α => congrFun (Classical.choose_spec impl_truncated.ex) α

noncomputable def impl_around_J3.b {α : Type} (N : Nat) (v1358 : Int) (v1359 : Bool) (v1360 : Int) (v1361 : Bool × (List Int) × (List Int) × Unit) (k0 : Int → Int → (Bool × (List Int) × (List Int) × Unit) → Option α) : Option α :=
 let x1362 := !v1359
 bif x1362 then
  let x1363 := (IntKind.i64.wrap (v1360 + (1 : Int)))
  k0 v1358 x1363 v1361
 else
  k0 v1358 v1360 v1361
theorem impl_around_J3.ex : ∃ f : ((α : Type) → Nat → Int → Bool → Int → (Bool × (List Int) × (List Int) × Unit) → (Int → Int → (Bool × (List Int) × (List Int) × Unit) → Option α) → Option α), f = fun α => @impl_around_J3.b α := ⟨_, rfl⟩
noncomputable def impl_around_J3 {α : Type} : Nat → Int → Bool → Int → (Bool × (List Int) × (List Int) × Unit) → (Int → Int → (Bool × (List Int) × (List Int) × Unit) → Option α) → Option α := Classical.choose impl_around_J3.ex α
theorem impl_around_J3.eq : @impl_around_J3 = @impl_around_J3.b := funext fun α => congrFun (Classical.choose_spec impl_around_J3.ex) α
/-- impl.around -/
noncomputable def impl_around.b {α : Type} (N : Nat) (a1221 : Int) (a1222 : Bool × (List Int) × (List Int) × Unit) (k0 : Int → Int → Option α) : Option α :=
 impl_truncated N a1221 a1222
  (fun x1356 x1357 =>
   impl_around_J3 N x1356 x1357 x1356 a1222
    (fun x1364 x1365 x1366 =>
     bif x1366.1 then
      let x1367 := IntKind.i64.wrap (0 - x1365)
      let x1368 := IntKind.i64.wrap (0 - x1364)
      k0 x1367 x1368
     else
      k0 x1364 x1365))
theorem impl_around.ex : ∃ f : ((α : Type) → Nat → Int → (Bool × (List Int) × (List Int) × Unit) → (Int → Int → Option α) → Option α), f = fun α => @impl_around.b α := ⟨_, rfl⟩
noncomputable def impl_around {α : Type} : Nat → Int → (Bool × (List Int) × (List Int) × Unit) → (Int → Int → Option α) → Option α := Classical.choose impl_around.ex α
theorem impl_around.eq : @impl_around = @impl_around.b := funext fun α => congrFun (Classical.choose_spec impl_around.ex) α

/-- impl.PairFrac -/
noncomputable def impl_PairFrac.b {α : Type} (N : Nat) (a606 : Int) (a607 : Bool × (List Int) × (List Int) × Unit) (k0 : (Int × Int × Unit) → Bool → Option α) : Option α :=
 impl_floated N a606 a607
  (fun x1219 =>
   let x1220 := !x1219
   bif x1220 then
    k0 ((0 : Int), ((0 : Int), ())) false
   else
    impl_around N a606 a607
     (fun x1369 x1370 =>
      k0 (x1369, (x1370, ())) true))
theorem impl_PairFrac.ex : ∃ f : ((α : Type) → Nat → Int → (Bool × (List Int) × (List Int) × Unit) → ((Int × Int × Unit) → Bool → Option α) → Option α), f = fun α => @impl_PairFrac.b α := ⟨_, rfl⟩
noncomputable def impl_PairFrac {α : Type} : Nat → Int → (Bool × (List Int) × (List Int) × Unit) → ((Int × Int × Unit) → Bool → Option α) → Option α := Classical.choose impl_PairFrac.ex α
theorem impl_PairFrac.eq : @impl_PairFrac = @impl_PairFrac.b := funext fun α => congrFun (Classical.choose_spec impl_PairFrac.ex) α

/-- laws.eqPair -/
noncomputable def laws_eqPair.b {α : Type} (N : Nat) (a1373 : Int × Int × Unit) (a1374 : Int × Int × Unit) (k0 : Bool → Option α) : Option α :=
 let x1375 := !(decide (a1373.1 = a1374.1))
 bif x1375 then
  k0 false
 else
  let x1376 := !(decide (a1373.2.1 = a1374.2.1))
  bif x1376 then
   k0 false
  else
   k0 true
theorem laws_eqPair.ex : ∃ f : ((α : Type) → Nat → (Int × Int × Unit) → (Int × Int × Unit) → (Bool → Option α) → Option α), f = fun α => @laws_eqPair.b α := ⟨_, rfl⟩
noncomputable def laws_eqPair {α : Type} : Nat → (Int × Int × Unit) → (Int × Int × Unit) → (Bool → Option α) → Option α := Classical.choose laws_eqPair.ex α
theorem laws_eqPair.eq : @laws_eqPair = @laws_eqPair.b := funext fun α => congrFun (Classical.choose_spec laws_eqPair.ex) α

noncomputable def laws_eqIntS_L0r {α : Type} (N : Nat) (next : List Int → List Int → Int → Option α) (k0 : Bool → Option α) (k1 : Option α) (v1391 : List Int) (v1392 : List Int) (v1393 : Int) : Option α :=
 let x1394 := ((v1391.length : Nat) : Int)
 let x1395 := decide (v1393 < x1394)
 bif x1395 then
  bif (decide (v1393 < (0 : Int))) then
   none
  else
   match v1391[v1393.toNat]? with
   | some x1396 =>
    bif (decide (v1393 < (0 : Int))) then
     none
    else
     match v1392[v1393.toNat]? with
     | some x1397 =>
      let x1398 := !(decide (x1396 = x1397))
      bif x1398 then
       k0 false
      else
       let x1399 := (IntKind.i64.wrap (v1393 + (1 : Int)))
       next v1391 v1392 x1399
     | none => none
   | none => none
 else
  k1
noncomputable def laws_eqIntS_L0.b {α : Type} (N n : Nat) (v1391 : List Int) (v1392 : List Int) (v1393 : Int) (k0 : Bool → Option α) (k1 : Option α) : Option α :=
  Nat.rec (motive := fun _ => List Int → List Int → Int → Option α) (fun _ _ _ => none) (fun _ next => laws_eqIntS_L0r N next k0 k1) n v1391 v1392 v1393
theorem laws_eqIntS_L0.ex : ∃ f : ((α : Type) → Nat → Nat → List Int → List Int → Int → (Bool → Option α) → (Option α) → Option α), f = fun α => @laws_eqIntS_L0.b α := ⟨_, rfl⟩
noncomputable def laws_eqIntS_L0 {α : Type} : Nat → Nat → List Int → List Int → Int → (Bool → Option α) → (Option α) → Option α := Classical.choose laws_eqIntS_L0.ex α
theorem laws_eqIntS_L0.eq : @laws_eqIntS_L0 = @laws_eqIntS_L0.b := funext fun α => congrFun (Classical.choose_spec laws_eqIntS_L0.ex) α
theorem laws_eqIntS_L0.zero {α : Type} (N : Nat) (v1391 : List Int) (v1392 : List Int) (v1393 : Int) (k0 : Bool → Option α) (k1 : Option α) : laws_eqIntS_L0 N 0 v1391 v1392 v1393 k0 k1 = none := by rw [laws_eqIntS_L0.eq]; rfl
theorem laws_eqIntS_L0.succ {α : Type} (N n : Nat) (v1391 : List Int) (v1392 : List Int) (v1393 : Int) (k0 : Bool → Option α) (k1 : Option α) : laws_eqIntS_L0 N (n + 1) v1391 v1392 v1393 k0 k1 = laws_eqIntS_L0r N (fun y0 y1 y2 => laws_eqIntS_L0 N n y0 y1 y2 k0 k1) k0 k1 v1391 v1392 v1393 := by rw [laws_eqIntS_L0.eq]; rfl
/-- laws.eqIntS -/
noncomputable def laws_eqIntS.b {α : Type} (N : Nat) (a1386 : List Int) (a1387 : List Int) (k0 : Bool → Option α) : Option α :=
 let x1388 := ((a1386.length : Nat) : Int)
 let x1389 := ((a1387.length : Nat) : Int)
 let x1390 := !(decide (x1388 = x1389))
 bif x1390 then
  k0 false
 else
  laws_eqIntS_L0 N N a1386 a1387 (0 : Int)
   (fun x1400 =>
    k0 x1400)
   (
    k0 true)
theorem laws_eqIntS.ex : ∃ f : ((α : Type) → Nat → List Int → List Int → (Bool → Option α) → Option α), f = fun α => @laws_eqIntS.b α := ⟨_, rfl⟩
noncomputable def laws_eqIntS {α : Type} : Nat → List Int → List Int → (Bool → Option α) → Option α := Classical.choose laws_eqIntS.ex α
theorem laws_eqIntS.eq : @laws_eqIntS = @laws_eqIntS.b := funext fun α => congrFun (Classical.choose_spec laws_eqIntS.ex) α

/-- laws.eqFrac -/
noncomputable def laws_eqFrac.b {α : Type} (N : Nat) (a1383 : Bool × (List Int) × (List Int) × Unit) (a1384 : Bool × (List Int) × (List Int) × Unit) (k0 : Bool → Option α) : Option α :=
 let x1385 := !(a1383.1 == a1384.1)
 bif x1385 then
  k0 false
 else
  laws_eqIntS N a1383.2.1 a1384.2.1
   (fun x1401 =>
    let x1402 := !x1401
    bif x1402 then
     k0 false
    else
     laws_eqIntS N a1383.2.2.1 a1384.2.2.1
      (fun x1403 =>
       let x1404 := !x1403
       bif x1404 then
        k0 false
       else
        k0 true))
theorem laws_eqFrac.ex : ∃ f : ((α : Type) → Nat → (Bool × (List Int) × (List Int) × Unit) → (Bool × (List Int) × (List Int) × Unit) → (Bool → Option α) → Option α), f = fun α => @laws_eqFrac.b α := ⟨_, rfl⟩
noncomputable def laws_eqFrac {α : Type} : Nat → (Bool × (List Int) × (List Int) × Unit) → (Bool × (List Int) × (List Int) × Unit) → (Bool → Option α) → Option α := Classical.choose laws_eqFrac.ex α
theorem laws_eqFrac.eq : @laws_eqFrac = @laws_eqFrac.b := funext fun α => congrFun (Classical.choose_spec laws_eqFrac.ex) α

/-- laws.FnExactPairFrac -/
noncomputable def laws_FnExactPairFrac.b {α : Type} (N : Nat) (a1 : Int) (a2 : Bool × (List Int) × (List Int) × Unit) (k0 : Bool → Option α) : Option α :=
 laws_szFrac N a2 (1048576 : Int)
  (fun x14 =>
   let x15 := (decide (x14 < (0 : Int)))
   bif x15 then
    k0 true
   else
    laws_toFrac N a2
     (fun x32 x33 x34 =>
      spec_PairFrac N a1 (x32, (x33, (x34, ())))
       (fun x601 x602 =>
        laws_toFrac N a2
         (fun x603 x604 x605 =>
          impl_PairFrac N a1 (x603, (x604, (x605, ())))
           (fun x1371 x1372 =>
            laws_eqPair N x1371 x601
             (fun x1377 =>
              let x1378 := !x1377
              bif x1378 then
               k0 false
              else
               let x1379 := !(x1372 == x602)
               bif x1379 then
                k0 false
               else
                laws_toFrac N a2
                 (fun x1380 x1381 x1382 =>
                  laws_eqFrac N (x603, (x604, (x605, ()))) (x1380, (x1381, (x1382, ())))
                   (fun x1405 =>
                    let x1406 := !x1405
                    bif x1406 then
                     k0 false
                    else
                     k0 true))))))))
theorem laws_FnExactPairFrac.ex : ∃ f : ((α : Type) → Nat → Int → (Bool × (List Int) × (List Int) × Unit) → (Bool → Option α) → Option α), f = fun α => @laws_FnExactPairFrac.b α := ⟨_, rfl⟩
noncomputable def laws_FnExactPairFrac {α : Type} : Nat → Int → (Bool × (List Int) × (List Int) × Unit) → (Bool → Option α) → Option α := Classical.choose laws_FnExactPairFrac.ex α
theorem laws_FnExactPairFrac.eq : @laws_FnExactPairFrac = @laws_FnExactPairFrac.b := funext fun α => congrFun (Classical.choose_spec laws_FnExactPairFrac.ex) α

end
end Go.Proofs.YtlbihmicbncdiaaDoorAm
