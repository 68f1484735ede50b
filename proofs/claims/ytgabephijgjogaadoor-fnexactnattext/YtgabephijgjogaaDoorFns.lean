/-
  The functions that the program computes, as the abstract machine tells them. Printed by amp.py.
-/
import Derived.Test.YtgabephijgjogaaDoorAmc
namespace Go.Proofs.YtgabephijgjogaaDoorAm
open Go
noncomputable section
set_option linter.unusedVariables false
set_option linter.unusedSimpArgs false

noncomputable def laws_toIntS_L0r {α : Type} (N : Nat) (next : List Int → Int → List Int → Option α) (k0 : List Int → Option α) (v7 : List Int) (v8 : Int) (v9 : List Int) : Option α :=
 let x10 := ((v7.length : Nat) : Int)
 let x11 := decide (v8 < x10)
 bif x11 then
  bif (decide (v8 < (0 : Int))) then
   none
  else
   match v7[v8.toNat]? with
   | some x12 =>
    bif (decide (v8 < (0 : Int))) then
     none
    else
     bif decide (v8.toNat < v9.length) then
      match v9[v8.toNat]? with
      | some x13 =>
       let x14 := v9.set v8.toNat x12
       let x15 := (IntKind.i64.wrap (v8 + (1 : Int)))
       next v7 x15 x14
      | none => none
     else
      none
   | none => none
 else
  k0 v9
noncomputable def laws_toIntS_L0.b {α : Type} (N n : Nat) (v7 : List Int) (v8 : Int) (v9 : List Int) (k0 : List Int → Option α) : Option α :=
  Nat.rec (motive := fun _ => List Int → Int → List Int → Option α) (fun _ _ _ => none) (fun _ next => laws_toIntS_L0r N next k0) n v7 v8 v9
theorem laws_toIntS_L0.ex : ∃ f : ((α : Type) → Nat → Nat → List Int → Int → List Int → (List Int → Option α) → Option α), f = fun α => @laws_toIntS_L0.b α := ⟨_, rfl⟩
noncomputable def laws_toIntS_L0 {α : Type} : Nat → Nat → List Int → Int → List Int → (List Int → Option α) → Option α := Classical.choose laws_toIntS_L0.ex α
theorem laws_toIntS_L0.eq : @laws_toIntS_L0 = @laws_toIntS_L0.b := funext fun α => congrFun (Classical.choose_spec laws_toIntS_L0.ex) α
theorem laws_toIntS_L0.zero {α : Type} (N : Nat) (v7 : List Int) (v8 : Int) (v9 : List Int) (k0 : List Int → Option α) : laws_toIntS_L0 N 0 v7 v8 v9 k0 = none := by rw [laws_toIntS_L0.eq]; rfl
theorem laws_toIntS_L0.succ {α : Type} (N n : Nat) (v7 : List Int) (v8 : Int) (v9 : List Int) (k0 : List Int → Option α) : laws_toIntS_L0 N (n + 1) v7 v8 v9 k0 = laws_toIntS_L0r N (fun y0 y1 y2 => laws_toIntS_L0 N n y0 y1 y2 k0) k0 v7 v8 v9 := by rw [laws_toIntS_L0.eq]; rfl
/-- laws.toIntS -/
noncomputable def laws_toIntS.b {α : Type} (N : Nat) (a4 : List Int) (k0 : List Int → Option α) : Option α :=
 let x5 := ((a4.length : Nat) : Int)
 bif (decide ((0 : Int) ≤ x5)) then
  bif decide (x5 ≤ x5) then
   bif (decide (x5 ≤ ((8796093022208 : Nat) : Int))) then
    let x6 := (List.replicate x5.toNat (0 : Int))
    laws_toIntS_L0 N N a4 (0 : Int) x6
     (fun x16 =>
      k0 x16)
   else
    none
  else
   none
 else
  none
theorem laws_toIntS.ex : ∃ f : ((α : Type) → Nat → List Int → (List Int → Option α) → Option α), f = fun α => @laws_toIntS.b α := ⟨_, rfl⟩
noncomputable def laws_toIntS {α : Type} : Nat → List Int → (List Int → Option α) → Option α := Classical.choose laws_toIntS.ex α
theorem laws_toIntS.eq : @laws_toIntS = @laws_toIntS.b := funext fun α => congrFun (Classical.choose_spec laws_toIntS.ex) α

noncomputable def spec_NatOk_L0r {α : Type} (N : Nat) (next : List Int → Int → Option α) (k0 : Bool → Option α) (k1 : List Int → Option α) (v101 : List Int) (v102 : Int) : Option α :=
 let x103 := ((v101.length : Nat) : Int)
 let x104 := decide (v102 < x103)
 bif x104 then
  bif (decide (v102 < (0 : Int))) then
   none
  else
   match v101[v102.toNat]? with
   | some x105 =>
    let x106 := (decide (x105 < (0 : Int)))
    bif x106 then
     k0 false
    else
     bif (decide (v102 < (0 : Int))) then
      none
     else
      match v101[v102.toNat]? with
      | some x107 =>
       let x108 := (decide ((65536 : Int) ≤ x107))
       bif x108 then
        k0 false
       else
        let x109 := (IntKind.i64.wrap (v102 + (1 : Int)))
        next v101 x109
      | none => none
   | none => none
 else
  k1 v101
noncomputable def spec_NatOk_L0.b {α : Type} (N n : Nat) (v101 : List Int) (v102 : Int) (k0 : Bool → Option α) (k1 : List Int → Option α) : Option α :=
  Nat.rec (motive := fun _ => List Int → Int → Option α) (fun _ _ => none) (fun _ next => spec_NatOk_L0r N next k0 k1) n v101 v102
theorem spec_NatOk_L0.ex : ∃ f : ((α : Type) → Nat → Nat → List Int → Int → (Bool → Option α) → (List Int → Option α) → Option α), f = fun α => @spec_NatOk_L0.b α := ⟨_, rfl⟩
noncomputable def spec_NatOk_L0 {α : Type} : Nat → Nat → List Int → Int → (Bool → Option α) → (List Int → Option α) → Option α := Classical.choose spec_NatOk_L0.ex α
theorem spec_NatOk_L0.eq : @spec_NatOk_L0 = @spec_NatOk_L0.b := funext fun α => congrFun (Classical.choose_spec spec_NatOk_L0.ex) α
theorem spec_NatOk_L0.zero {α : Type} (N : Nat) (v101 : List Int) (v102 : Int) (k0 : Bool → Option α) (k1 : List Int → Option α) : spec_NatOk_L0 N 0 v101 v102 k0 k1 = none := by rw [spec_NatOk_L0.eq]; rfl
theorem spec_NatOk_L0.succ {α : Type} (N n : Nat) (v101 : List Int) (v102 : Int) (k0 : Bool → Option α) (k1 : List Int → Option α) : spec_NatOk_L0 N (n + 1) v101 v102 k0 k1 = spec_NatOk_L0r N (fun y0 y1 => spec_NatOk_L0 N n y0 y1 k0 k1) k0 k1 v101 v102 := by rw [spec_NatOk_L0.eq]; rfl
/-- spec.NatOk -/
noncomputable def spec_NatOk.b {α : Type} (N : Nat) (a98 : List Int) (k0 : Bool → Option α) : Option α :=
 let x99 := ((a98.length : Nat) : Int)
 let x100 := (decide ((256 : Int) < x99))
 bif x100 then
  k0 false
 else
  spec_NatOk_L0 N N a98 (0 : Int)
   (fun x110 =>
    k0 x110)
   (fun x111 =>
    let x112 := ((x111.length : Nat) : Int)
    let x113 := (decide (x112 = (0 : Int)))
    bif x113 then
     k0 true
    else
     let x114 := ((x111.length : Nat) : Int)
     let x115 := (IntKind.i64.wrap (x114 - (1 : Int)))
     bif (decide (x115 < (0 : Int))) then
      none
     else
      match x111[x115.toNat]? with
      | some x116 =>
       let x117 := (!(decide (x116 = (0 : Int))))
       k0 x117
      | none => none)
theorem spec_NatOk.ex : ∃ f : ((α : Type) → Nat → List Int → (Bool → Option α) → Option α), f = fun α => @spec_NatOk.b α := ⟨_, rfl⟩
noncomputable def spec_NatOk {α : Type} : Nat → List Int → (Bool → Option α) → Option α := Classical.choose spec_NatOk.ex α
theorem spec_NatOk.eq : @spec_NatOk = @spec_NatOk.b := funext fun α => congrFun (Classical.choose_spec spec_NatOk.ex) α

noncomputable def spec_l5Trim_L0r {α : Type} (N : Nat) (next : List Int → Int → Option α) (k0 : List Int → Int → Option α) (v150 : List Int) (v151 : Int) : Option α :=
 let x152 := (decide ((0 : Int) < v151))
 bif x152 then
  let x153 := (IntKind.i64.wrap (v151 - (1 : Int)))
  bif (decide (x153 < (0 : Int))) then
   none
  else
   match v150[x153.toNat]? with
   | some x154 =>
    let x155 := (decide (x154 = (0 : Int)))
    bif x155 then
     let x156 := (IntKind.i64.wrap (v151 - (1 : Int)))
     next v150 x156
    else
     k0 v150 v151
   | none => none
 else
  k0 v150 v151
noncomputable def spec_l5Trim_L0.b {α : Type} (N n : Nat) (v150 : List Int) (v151 : Int) (k0 : List Int → Int → Option α) : Option α :=
  Nat.rec (motive := fun _ => List Int → Int → Option α) (fun _ _ => none) (fun _ next => spec_l5Trim_L0r N next k0) n v150 v151
theorem spec_l5Trim_L0.ex : ∃ f : ((α : Type) → Nat → Nat → List Int → Int → (List Int → Int → Option α) → Option α), f = fun α => @spec_l5Trim_L0.b α := ⟨_, rfl⟩
noncomputable def spec_l5Trim_L0 {α : Type} : Nat → Nat → List Int → Int → (List Int → Int → Option α) → Option α := Classical.choose spec_l5Trim_L0.ex α
theorem spec_l5Trim_L0.eq : @spec_l5Trim_L0 = @spec_l5Trim_L0.b := funext fun α => congrFun (Classical.choose_spec spec_l5Trim_L0.ex) α
theorem spec_l5Trim_L0.zero {α : Type} (N : Nat) (v150 : List Int) (v151 : Int) (k0 : List Int → Int → Option α) : spec_l5Trim_L0 N 0 v150 v151 k0 = none := by rw [spec_l5Trim_L0.eq]; rfl
theorem spec_l5Trim_L0.succ {α : Type} (N n : Nat) (v150 : List Int) (v151 : Int) (k0 : List Int → Int → Option α) : spec_l5Trim_L0 N (n + 1) v150 v151 k0 = spec_l5Trim_L0r N (fun y0 y1 => spec_l5Trim_L0 N n y0 y1 k0) k0 v150 v151 := by rw [spec_l5Trim_L0.eq]; rfl
noncomputable def spec_l5Trim_L2r {α : Type} (N : Nat) (next : List Int → Int → Int → List Int → Option α) (k0 : List Int → Option α) (v159 : List Int) (v160 : Int) (v161 : Int) (v162 : List Int) : Option α :=
 let x163 := decide (v161 < v160)
 bif x163 then
  bif (decide (v161 < (0 : Int))) then
   none
  else
   match v159[v161.toNat]? with
   | some x164 =>
    let x165 := [x164]
    bif decide (v162.length + x165.length ≤ 8796093022208) then
     let x166 := v162 ++ x165
     let x167 := (IntKind.i64.wrap (v161 + (1 : Int)))
     next v159 v160 x167 x166
    else
     none
   | none => none
 else
  k0 v162
noncomputable def spec_l5Trim_L2.b {α : Type} (N n : Nat) (v159 : List Int) (v160 : Int) (v161 : Int) (v162 : List Int) (k0 : List Int → Option α) : Option α :=
  Nat.rec (motive := fun _ => List Int → Int → Int → List Int → Option α) (fun _ _ _ _ => none) (fun _ next => spec_l5Trim_L2r N next k0) n v159 v160 v161 v162
theorem spec_l5Trim_L2.ex : ∃ f : ((α : Type) → Nat → Nat → List Int → Int → Int → List Int → (List Int → Option α) → Option α), f = fun α => @spec_l5Trim_L2.b α := ⟨_, rfl⟩
noncomputable def spec_l5Trim_L2 {α : Type} : Nat → Nat → List Int → Int → Int → List Int → (List Int → Option α) → Option α := Classical.choose spec_l5Trim_L2.ex α
theorem spec_l5Trim_L2.eq : @spec_l5Trim_L2 = @spec_l5Trim_L2.b := funext fun α => congrFun (Classical.choose_spec spec_l5Trim_L2.ex) α
theorem spec_l5Trim_L2.zero {α : Type} (N : Nat) (v159 : List Int) (v160 : Int) (v161 : Int) (v162 : List Int) (k0 : List Int → Option α) : spec_l5Trim_L2 N 0 v159 v160 v161 v162 k0 = none := by rw [spec_l5Trim_L2.eq]; rfl
theorem spec_l5Trim_L2.succ {α : Type} (N n : Nat) (v159 : List Int) (v160 : Int) (v161 : Int) (v162 : List Int) (k0 : List Int → Option α) : spec_l5Trim_L2 N (n + 1) v159 v160 v161 v162 k0 = spec_l5Trim_L2r N (fun y0 y1 y2 y3 => spec_l5Trim_L2 N n y0 y1 y2 y3 k0) k0 v159 v160 v161 v162 := by rw [spec_l5Trim_L2.eq]; rfl
/-- spec.l5Trim -/
noncomputable def spec_l5Trim.b {α : Type} (N : Nat) (a148 : List Int) (k0 : List Int → Option α) : Option α :=
 let x149 := ((a148.length : Nat) : Int)
 spec_l5Trim_L0 N N a148 x149
  (fun x157 x158 =>
   spec_l5Trim_L2 N N x157 x158 (0 : Int) []
    (fun x168 =>
     k0 x168))
theorem spec_l5Trim.ex : ∃ f : ((α : Type) → Nat → List Int → (List Int → Option α) → Option α), f = fun α => @spec_l5Trim.b α := ⟨_, rfl⟩
noncomputable def spec_l5Trim {α : Type} : Nat → List Int → (List Int → Option α) → Option α := Classical.choose spec_l5Trim.ex α
theorem spec_l5Trim.eq : @spec_l5Trim = @spec_l5Trim.b := funext fun α => congrFun (Classical.choose_spec spec_l5Trim.ex) α

noncomputable def spec_l5DivSmall_L0r {α : Type} (N : Nat) (next : List Int → Int → Int → Int → List Int → Option α) (k0 : Int → List Int → Option α) (v132 : List Int) (v133 : Int) (v134 : Int) (v135 : Int) (v136 : List Int) : Option α :=
 let x137 := (decide ((0 : Int) ≤ v135))
 bif x137 then
  let x138 := (IntKind.i64.wrap (v134 * (65536 : Int)))
  bif (decide (v135 < (0 : Int))) then
   none
  else
   match v132[v135.toNat]? with
   | some x139 =>
    let x140 := IntKind.i64.wrap (x138 + x139)
    bif (decide (v133 = (0 : Int))) then
     none
    else
     let x141 := IntKind.i64.wrap (Int.tdiv x140 v133)
     bif (decide (v135 < (0 : Int))) then
      none
     else
      bif decide (v135.toNat < v136.length) then
       match v136[v135.toNat]? with
       | some x142 =>
        let x143 := v136.set v135.toNat x141
        bif (decide (v133 = (0 : Int))) then
         none
        else
         let x144 := Int.tmod x140 v133
         let x145 := (IntKind.i64.wrap (v135 - (1 : Int)))
         next v132 v133 x144 x145 x143
       | none => none
      else
       none
   | none => none
 else
  k0 v134 v136
noncomputable def spec_l5DivSmall_L0.b {α : Type} (N n : Nat) (v132 : List Int) (v133 : Int) (v134 : Int) (v135 : Int) (v136 : List Int) (k0 : Int → List Int → Option α) : Option α :=
  Nat.rec (motive := fun _ => List Int → Int → Int → Int → List Int → Option α) (fun _ _ _ _ _ => none) (fun _ next => spec_l5DivSmall_L0r N next k0) n v132 v133 v134 v135 v136
theorem spec_l5DivSmall_L0.ex : ∃ f : ((α : Type) → Nat → Nat → List Int → Int → Int → Int → List Int → (Int → List Int → Option α) → Option α), f = fun α => @spec_l5DivSmall_L0.b α := ⟨_, rfl⟩
noncomputable def spec_l5DivSmall_L0 {α : Type} : Nat → Nat → List Int → Int → Int → Int → List Int → (Int → List Int → Option α) → Option α := Classical.choose spec_l5DivSmall_L0.ex α
theorem spec_l5DivSmall_L0.eq : @spec_l5DivSmall_L0 = @spec_l5DivSmall_L0.b := funext fun α => congrFun (Classical.choose_spec spec_l5DivSmall_L0.ex) α
theorem spec_l5DivSmall_L0.zero {α : Type} (N : Nat) (v132 : List Int) (v133 : Int) (v134 : Int) (v135 : Int) (v136 : List Int) (k0 : Int → List Int → Option α) : spec_l5DivSmall_L0 N 0 v132 v133 v134 v135 v136 k0 = none := by rw [spec_l5DivSmall_L0.eq]; rfl
theorem spec_l5DivSmall_L0.succ {α : Type} (N n : Nat) (v132 : List Int) (v133 : Int) (v134 : Int) (v135 : Int) (v136 : List Int) (k0 : Int → List Int → Option α) : spec_l5DivSmall_L0 N (n + 1) v132 v133 v134 v135 v136 k0 = spec_l5DivSmall_L0r N (fun y0 y1 y2 y3 y4 => spec_l5DivSmall_L0 N n y0 y1 y2 y3 y4 k0) k0 v132 v133 v134 v135 v136 := by rw [spec_l5DivSmall_L0.eq]; rfl
/-- spec.l5DivSmall -/
noncomputable def spec_l5DivSmall.b {α : Type} (N : Nat) (a126 : List Int) (a127 : Int) (k0 : Int → List Int → Option α) : Option α :=
 let x128 := ((a126.length : Nat) : Int)
 bif (decide ((0 : Int) ≤ x128)) then
  bif decide (x128 ≤ x128) then
   bif (decide (x128 ≤ ((8796093022208 : Nat) : Int))) then
    let x129 := (List.replicate x128.toNat (0 : Int))
    let x130 := ((a126.length : Nat) : Int)
    let x131 := (IntKind.i64.wrap (x130 - (1 : Int)))
    spec_l5DivSmall_L0 N N a126 a127 (0 : Int) x131 x129
     (fun x146 x147 =>
      spec_l5Trim N x147
       (fun x169 =>
        k0 x146 x169))
   else
    none
  else
   none
 else
  none
theorem spec_l5DivSmall.ex : ∃ f : ((α : Type) → Nat → List Int → Int → (Int → List Int → Option α) → Option α), f = fun α => @spec_l5DivSmall.b α := ⟨_, rfl⟩
noncomputable def spec_l5DivSmall {α : Type} : Nat → List Int → Int → (Int → List Int → Option α) → Option α := Classical.choose spec_l5DivSmall.ex α
theorem spec_l5DivSmall.eq : @spec_l5DivSmall = @spec_l5DivSmall.b := funext fun α => congrFun (Classical.choose_spec spec_l5DivSmall.ex) α

noncomputable def spec_NatText_L0r {α : Type} (N : Nat) (next : List Int → List Int → Option α) (k0 : List Int → Option α) (v122 : List Int) (v123 : List Int) : Option α :=
 let x124 := ((v122.length : Nat) : Int)
 let x125 := (decide ((0 : Int) < x124))
 bif x125 then
  spec_l5DivSmall N v122 (10 : Int)
   (fun x170 x171 =>
    let x172 := (IntKind.i64.wrap ((48 : Int) + x170))
    let x173 := IntKind.u8.wrap x172
    let x174 := [x173]
    bif decide (v123.length + x174.length ≤ 8796093022208) then
     let x175 := v123 ++ x174
     next x171 x175
    else
     none)
 else
  k0 v123
noncomputable def spec_NatText_L0.b {α : Type} (N n : Nat) (v122 : List Int) (v123 : List Int) (k0 : List Int → Option α) : Option α :=
  Nat.rec (motive := fun _ => List Int → List Int → Option α) (fun _ _ => none) (fun _ next => spec_NatText_L0r N next k0) n v122 v123
theorem spec_NatText_L0.ex : ∃ f : ((α : Type) → Nat → Nat → List Int → List Int → (List Int → Option α) → Option α), f = fun α => @spec_NatText_L0.b α := ⟨_, rfl⟩
noncomputable def spec_NatText_L0 {α : Type} : Nat → Nat → List Int → List Int → (List Int → Option α) → Option α := Classical.choose spec_NatText_L0.ex α
theorem spec_NatText_L0.eq : @spec_NatText_L0 = @spec_NatText_L0.b := funext fun α => congrFun (Classical.choose_spec spec_NatText_L0.ex) α
theorem spec_NatText_L0.zero {α : Type} (N : Nat) (v122 : List Int) (v123 : List Int) (k0 : List Int → Option α) : spec_NatText_L0 N 0 v122 v123 k0 = none := by rw [spec_NatText_L0.eq]; rfl
theorem spec_NatText_L0.succ {α : Type} (N n : Nat) (v122 : List Int) (v123 : List Int) (k0 : List Int → Option α) : spec_NatText_L0 N (n + 1) v122 v123 k0 = spec_NatText_L0r N (fun y0 y1 => spec_NatText_L0 N n y0 y1 k0) k0 v122 v123 := by rw [spec_NatText_L0.eq]; rfl
noncomputable def spec_NatText_L2r {α : Type} (N : Nat) (next : Int → List Int → List Int → Option α) (k0 : List Int → Option α) (v179 : Int) (v180 : List Int) (v181 : List Int) : Option α :=
 let x182 := (decide ((0 : Int) ≤ v179))
 bif x182 then
  bif (decide (v179 < (0 : Int))) then
   none
  else
   bif decide (v179.toNat < v180.length) then
    match v180[v179.toNat]? with
    | some x183 =>
     let x184 := [x183]
     bif decide (v181.length + x184.length ≤ 8796093022208) then
      let x185 := v181 ++ x184
      let x186 := (IntKind.i64.wrap (v179 - (1 : Int)))
      next x186 v180 x185
     else
      none
    | none => none
   else
    none
 else
  k0 v181
noncomputable def spec_NatText_L2.b {α : Type} (N n : Nat) (v179 : Int) (v180 : List Int) (v181 : List Int) (k0 : List Int → Option α) : Option α :=
  Nat.rec (motive := fun _ => Int → List Int → List Int → Option α) (fun _ _ _ => none) (fun _ next => spec_NatText_L2r N next k0) n v179 v180 v181
theorem spec_NatText_L2.ex : ∃ f : ((α : Type) → Nat → Nat → Int → List Int → List Int → (List Int → Option α) → Option α), f = fun α => @spec_NatText_L2.b α := ⟨_, rfl⟩
noncomputable def spec_NatText_L2 {α : Type} : Nat → Nat → Int → List Int → List Int → (List Int → Option α) → Option α := Classical.choose spec_NatText_L2.ex α
theorem spec_NatText_L2.eq : @spec_NatText_L2 = @spec_NatText_L2.b := funext fun α => congrFun (Classical.choose_spec spec_NatText_L2.ex) α
theorem spec_NatText_L2.zero {α : Type} (N : Nat) (v179 : Int) (v180 : List Int) (v181 : List Int) (k0 : List Int → Option α) : spec_NatText_L2 N 0 v179 v180 v181 k0 = none := by rw [spec_NatText_L2.eq]; rfl
theorem spec_NatText_L2.succ {α : Type} (N n : Nat) (v179 : Int) (v180 : List Int) (v181 : List Int) (k0 : List Int → Option α) : spec_NatText_L2 N (n + 1) v179 v180 v181 k0 = spec_NatText_L2r N (fun y0 y1 y2 => spec_NatText_L2 N n y0 y1 y2 k0) k0 v179 v180 v181 := by rw [spec_NatText_L2.eq]; rfl
/-- spec.NatText -/
noncomputable def spec_NatText.b {α : Type} (N : Nat) (a97 : List Int) (k0 : ByteArray → Option α) : Option α :=
 spec_NatOk N a97
  (fun x118 =>
   let x119 := !x118
   bif x119 then
    k0 ByteArray.empty
   else
    let x120 := ((a97.length : Nat) : Int)
    let x121 := (decide (x120 = (0 : Int)))
    bif x121 then
     k0 (⟨#[48]⟩ : ByteArray)
    else
     spec_NatText_L0 N N a97 []
      (fun x176 =>
       let x177 := ((x176.length : Nat) : Int)
       let x178 := (IntKind.i64.wrap (x177 - (1 : Int)))
       spec_NatText_L2 N N x178 x176 []
        (fun x187 =>
         let x188 := bytesOf x187
         k0 x188)))
theorem spec_NatText.ex : ∃ f : ((α : Type) → Nat → List Int → (ByteArray → Option α) → Option α), f = fun α => @spec_NatText.b α := ⟨_, rfl⟩
noncomputable def spec_NatText {α : Type} : Nat → List Int → (ByteArray → Option α) → Option α := Classical.choose spec_NatText.ex α
theorem spec_NatText.eq : @spec_NatText = @spec_NatText.b := funext fun α => congrFun (Classical.choose_spec spec_NatText.ex) α

/-- impl.in -/
noncomputable def impl_in.b {α : Type} (N : Nat) (a206 : Int) (a207 : Int) (a208 : Int) (k0 : Bool → Option α) : Option α :=
 let x209 := decide (a207 ≤ a206)
 bif x209 then
  let x210 := decide (a206 ≤ a208)
  k0 x210
 else
  k0 false
theorem impl_in.ex : ∃ f : ((α : Type) → Nat → Int → Int → Int → (Bool → Option α) → Option α), f = fun α => @impl_in.b α := ⟨_, rfl⟩
noncomputable def impl_in {α : Type} : Nat → Int → Int → Int → (Bool → Option α) → Option α := Classical.choose impl_in.ex α
theorem impl_in.eq : @impl_in = @impl_in.b := funext fun α => congrFun (Classical.choose_spec impl_in.ex) α

/-- impl.NatOk$1 -/
noncomputable def impl_NatOk_1.b {α : Type} (N : Nat) (a205 : Int) (k0 : Bool → Option α) : Option α :=
 impl_in N a205 (0 : Int) (65535 : Int)
  (fun x211 =>
   let x212 := !x211
   k0 x212)
theorem impl_NatOk_1.ex : ∃ f : ((α : Type) → Nat → Int → (Bool → Option α) → Option α), f = fun α => @impl_NatOk_1.b α := ⟨_, rfl⟩
noncomputable def impl_NatOk_1 {α : Type} : Nat → Int → (Bool → Option α) → Option α := Classical.choose impl_NatOk_1.ex α
theorem impl_NatOk_1.eq : @impl_NatOk_1 = @impl_NatOk_1.b := funext fun α => congrFun (Classical.choose_spec impl_NatOk_1.ex) α

noncomputable def slices_IndexFunc_int_int__impl_NatOk_1_L0r {α : Type} (N : Nat) (next : List Int → Int → Int → Option α) (k0 : Int → Option α) (k1 : Option α) (v200 : List Int) (v201 : Int) (v202 : Int) : Option α :=
 let x203 := decide (v202 < v201)
 bif x203 then
  bif (decide (v202 < (0 : Int))) then
   none
  else
   match v200[v202.toNat]? with
   | some x204 =>
    impl_NatOk_1 N x204
     (fun x213 =>
      bif x213 then
       k0 v202
      else
       let x214 := (IntKind.i64.wrap (v202 + (1 : Int)))
       next v200 v201 x214)
   | none => none
 else
  k1
noncomputable def slices_IndexFunc_int_int__impl_NatOk_1_L0.b {α : Type} (N n : Nat) (v200 : List Int) (v201 : Int) (v202 : Int) (k0 : Int → Option α) (k1 : Option α) : Option α :=
  Nat.rec (motive := fun _ => List Int → Int → Int → Option α) (fun _ _ _ => none) (fun _ next => slices_IndexFunc_int_int__impl_NatOk_1_L0r N next k0 k1) n v200 v201 v202
theorem slices_IndexFunc_int_int__impl_NatOk_1_L0.ex : ∃ f : ((α : Type) → Nat → Nat → List Int → Int → Int → (Int → Option α) → (Option α) → Option α), f = fun α => @slices_IndexFunc_int_int__impl_NatOk_1_L0.b α := ⟨_, rfl⟩
noncomputable def slices_IndexFunc_int_int__impl_NatOk_1_L0 {α : Type} : Nat → Nat → List Int → Int → Int → (Int → Option α) → (Option α) → Option α := Classical.choose slices_IndexFunc_int_int__impl_NatOk_1_L0.ex α
theorem slices_IndexFunc_int_int__impl_NatOk_1_L0.eq : @slices_IndexFunc_int_int__impl_NatOk_1_L0 = @slices_IndexFunc_int_int__impl_NatOk_1_L0.b := funext fun α => congrFun (Classical.choose_spec slices_IndexFunc_int_int__impl_NatOk_1_L0.ex) α
theorem slices_IndexFunc_int_int__impl_NatOk_1_L0.zero {α : Type} (N : Nat) (v200 : List Int) (v201 : Int) (v202 : Int) (k0 : Int → Option α) (k1 : Option α) : slices_IndexFunc_int_int__impl_NatOk_1_L0 N 0 v200 v201 v202 k0 k1 = none := by rw [slices_IndexFunc_int_int__impl_NatOk_1_L0.eq]; rfl
theorem slices_IndexFunc_int_int__impl_NatOk_1_L0.succ {α : Type} (N n : Nat) (v200 : List Int) (v201 : Int) (v202 : Int) (k0 : Int → Option α) (k1 : Option α) : slices_IndexFunc_int_int__impl_NatOk_1_L0 N (n + 1) v200 v201 v202 k0 k1 = slices_IndexFunc_int_int__impl_NatOk_1_L0r N (fun y0 y1 y2 => slices_IndexFunc_int_int__impl_NatOk_1_L0 N n y0 y1 y2 k0 k1) k0 k1 v200 v201 v202 := by rw [slices_IndexFunc_int_int__impl_NatOk_1_L0.eq]; rfl
/-- slices.IndexFunc[[]int,int] -/
noncomputable def slices_IndexFunc_int_int__impl_NatOk_1.b {α : Type} (N : Nat) (a198 : List Int) (k0 : Int → Option α) : Option α :=
 let x199 := ((a198.length : Nat) : Int)
 slices_IndexFunc_int_int__impl_NatOk_1_L0 N N a198 x199 (0 : Int)
  (fun x215 =>
   k0 x215)
  (
   k0 (-1 : Int))
theorem slices_IndexFunc_int_int__impl_NatOk_1.ex : ∃ f : ((α : Type) → Nat → List Int → (Int → Option α) → Option α), f = fun α => @slices_IndexFunc_int_int__impl_NatOk_1.b α := ⟨_, rfl⟩
noncomputable def slices_IndexFunc_int_int__impl_NatOk_1 {α : Type} : Nat → List Int → (Int → Option α) → Option α := Classical.choose slices_IndexFunc_int_int__impl_NatOk_1.ex α
theorem slices_IndexFunc_int_int__impl_NatOk_1.eq : @slices_IndexFunc_int_int__impl_NatOk_1 = @slices_IndexFunc_int_int__impl_NatOk_1.b := funext fun α => congrFun (Classical.choose_spec slices_IndexFunc_int_int__impl_NatOk_1.ex) α

/-- slices.ContainsFunc[[]int,int] -/
noncomputable def slices_ContainsFunc_int_int__impl_NatOk_1.b {α : Type} (N : Nat) (a197 : List Int) (k0 : Bool → Option α) : Option α :=
 slices_IndexFunc_int_int__impl_NatOk_1 N a197
  (fun x216 =>
   let x217 := (decide ((0 : Int) ≤ x216))
   k0 x217)
theorem slices_ContainsFunc_int_int__impl_NatOk_1.ex : ∃ f : ((α : Type) → Nat → List Int → (Bool → Option α) → Option α), f = fun α => @slices_ContainsFunc_int_int__impl_NatOk_1.b α := ⟨_, rfl⟩
noncomputable def slices_ContainsFunc_int_int__impl_NatOk_1 {α : Type} : Nat → List Int → (Bool → Option α) → Option α := Classical.choose slices_ContainsFunc_int_int__impl_NatOk_1.ex α
theorem slices_ContainsFunc_int_int__impl_NatOk_1.eq : @slices_ContainsFunc_int_int__impl_NatOk_1 = @slices_ContainsFunc_int_int__impl_NatOk_1.b := funext fun α => congrFun (Classical.choose_spec slices_ContainsFunc_int_int__impl_NatOk_1.ex) α

/-- impl.NatOk -/
noncomputable def impl_NatOk.b {α : Type} (N : Nat) (a192 : List Int) (k0 : Bool → Option α) : Option α :=
 let x193 := ((a192.length : Nat) : Int)
 let x194 := (decide (x193 ≤ (256 : Int)))
 bif x194 then
  let x195 := ((a192.length : Nat) : Int)
  let x196 := (decide (x195 = (0 : Int)))
  bif x196 then
   slices_ContainsFunc_int_int__impl_NatOk_1 N a192
    (fun x218 =>
     let x219 := !x218
     k0 x219)
  else
   let x220 := ((a192.length : Nat) : Int)
   let x221 := (IntKind.i64.wrap (x220 - (1 : Int)))
   bif (decide (x221 < (0 : Int))) then
    none
   else
    match a192[x221.toNat]? with
    | some x222 =>
     let x223 := (!(decide (x222 = (0 : Int))))
     bif x223 then
      slices_ContainsFunc_int_int__impl_NatOk_1 N a192
       (fun x224 =>
        let x225 := !x224
        k0 x225)
     else
      k0 false
    | none => none
 else
  k0 false
theorem impl_NatOk.ex : ∃ f : ((α : Type) → Nat → List Int → (Bool → Option α) → Option α), f = fun α => @impl_NatOk.b α := ⟨_, rfl⟩
noncomputable def impl_NatOk {α : Type} : Nat → List Int → (Bool → Option α) → Option α := Classical.choose impl_NatOk.ex α
theorem impl_NatOk.eq : @impl_NatOk = @impl_NatOk.b := funext fun α => congrFun (Classical.choose_spec impl_NatOk.ex) α

noncomputable def impl_natCmp_L0r {α : Type} (N : Nat) (next : List Int → List Int → Int → Option α) (k0 : Int → Option α) (k1 : Option α) (v319 : List Int) (v320 : List Int) (v321 : Int) : Option α :=
 let x322 := (decide ((0 : Int) ≤ v321))
 bif x322 then
  bif (decide (v321 < (0 : Int))) then
   none
  else
   match v319[v321.toNat]? with
   | some x323 =>
    bif (decide (v321 < (0 : Int))) then
     none
    else
     match v320[v321.toNat]? with
     | some x324 =>
      let x325 := !(decide (x323 = x324))
      bif x325 then
       bif (decide (v321 < (0 : Int))) then
        none
       else
        match v319[v321.toNat]? with
        | some x326 =>
         bif (decide (v321 < (0 : Int))) then
          none
         else
          match v320[v321.toNat]? with
          | some x327 =>
           let x328 := IntKind.i64.wrap (x326 - x327)
           let x329 := (minI (1 : Int) x328)
           let x330 := (maxI (-1 : Int) x329)
           k0 x330
          | none => none
        | none => none
      else
       let x331 := (IntKind.i64.wrap (v321 - (1 : Int)))
       next v319 v320 x331
     | none => none
   | none => none
 else
  k1
noncomputable def impl_natCmp_L0.b {α : Type} (N n : Nat) (v319 : List Int) (v320 : List Int) (v321 : Int) (k0 : Int → Option α) (k1 : Option α) : Option α :=
  Nat.rec (motive := fun _ => List Int → List Int → Int → Option α) (fun _ _ _ => none) (fun _ next => impl_natCmp_L0r N next k0 k1) n v319 v320 v321
theorem impl_natCmp_L0.ex : ∃ f : ((α : Type) → Nat → Nat → List Int → List Int → Int → (Int → Option α) → (Option α) → Option α), f = fun α => @impl_natCmp_L0.b α := ⟨_, rfl⟩
noncomputable def impl_natCmp_L0 {α : Type} : Nat → Nat → List Int → List Int → Int → (Int → Option α) → (Option α) → Option α := Classical.choose impl_natCmp_L0.ex α
theorem impl_natCmp_L0.eq : @impl_natCmp_L0 = @impl_natCmp_L0.b := funext fun α => congrFun (Classical.choose_spec impl_natCmp_L0.ex) α
theorem impl_natCmp_L0.zero {α : Type} (N : Nat) (v319 : List Int) (v320 : List Int) (v321 : Int) (k0 : Int → Option α) (k1 : Option α) : impl_natCmp_L0 N 0 v319 v320 v321 k0 k1 = none := by rw [impl_natCmp_L0.eq]; rfl
theorem impl_natCmp_L0.succ {α : Type} (N n : Nat) (v319 : List Int) (v320 : List Int) (v321 : Int) (k0 : Int → Option α) (k1 : Option α) : impl_natCmp_L0 N (n + 1) v319 v320 v321 k0 k1 = impl_natCmp_L0r N (fun y0 y1 y2 => impl_natCmp_L0 N n y0 y1 y2 k0 k1) k0 k1 v319 v320 v321 := by rw [impl_natCmp_L0.eq]; rfl
/-- impl.natCmp -/
noncomputable def impl_natCmp.b {α : Type} (N : Nat) (a307 : List Int) (a308 : List Int) (k0 : Int → Option α) : Option α :=
 let x309 := ((a307.length : Nat) : Int)
 let x310 := ((a308.length : Nat) : Int)
 let x311 := !(decide (x309 = x310))
 bif x311 then
  let x312 := ((a307.length : Nat) : Int)
  let x313 := ((a308.length : Nat) : Int)
  let x314 := IntKind.i64.wrap (x312 - x313)
  let x315 := (minI (1 : Int) x314)
  let x316 := (maxI (-1 : Int) x315)
  k0 x316
 else
  let x317 := ((a307.length : Nat) : Int)
  let x318 := (IntKind.i64.wrap (x317 - (1 : Int)))
  impl_natCmp_L0 N N a307 a308 x318
   (fun x332 =>
    k0 x332)
   (
    k0 (0 : Int))
theorem impl_natCmp.ex : ∃ f : ((α : Type) → Nat → List Int → List Int → (Int → Option α) → Option α), f = fun α => @impl_natCmp.b α := ⟨_, rfl⟩
noncomputable def impl_natCmp {α : Type} : Nat → List Int → List Int → (Int → Option α) → Option α := Classical.choose impl_natCmp.ex α
theorem impl_natCmp.eq : @impl_natCmp = @impl_natCmp.b := funext fun α => congrFun (Classical.choose_spec impl_natCmp.ex) α

noncomputable def impl_trim_L0r {α : Type} (N : Nat) (next : List Int → Option α) (k0 : List Int → Option α) (v360 : List Int) : Option α :=
 let x361 := ((v360.length : Nat) : Int)
 let x362 := (decide ((0 : Int) < x361))
 bif x362 then
  let x363 := ((v360.length : Nat) : Int)
  let x364 := (IntKind.i64.wrap (x363 - (1 : Int)))
  bif (decide (x364 < (0 : Int))) then
   none
  else
   match v360[x364.toNat]? with
   | some x365 =>
    let x366 := (decide (x365 = (0 : Int)))
    bif x366 then
     let x367 := ((v360.length : Nat) : Int)
     let x368 := (IntKind.i64.wrap (x367 - (1 : Int)))
     bif (decide ((0 : Int) ≤ x368)) then
      bif (decide (x368 ≤ ((v360.length : Nat) : Int))) then
       let x369 := v360.take x368.toNat
       next x369
      else
       none
     else
      none
    else
     k0 v360
   | none => none
 else
  k0 v360
noncomputable def impl_trim_L0.b {α : Type} (N n : Nat) (v360 : List Int) (k0 : List Int → Option α) : Option α :=
  Nat.rec (motive := fun _ => List Int → Option α) (fun _ => none) (fun _ next => impl_trim_L0r N next k0) n v360
theorem impl_trim_L0.ex : ∃ f : ((α : Type) → Nat → Nat → List Int → (List Int → Option α) → Option α), f = fun α => @impl_trim_L0.b α := ⟨_, rfl⟩
noncomputable def impl_trim_L0 {α : Type} : Nat → Nat → List Int → (List Int → Option α) → Option α := Classical.choose impl_trim_L0.ex α
theorem impl_trim_L0.eq : @impl_trim_L0 = @impl_trim_L0.b := funext fun α => congrFun (Classical.choose_spec impl_trim_L0.ex) α
theorem impl_trim_L0.zero {α : Type} (N : Nat) (v360 : List Int) (k0 : List Int → Option α) : impl_trim_L0 N 0 v360 k0 = none := by rw [impl_trim_L0.eq]; rfl
theorem impl_trim_L0.succ {α : Type} (N n : Nat) (v360 : List Int) (k0 : List Int → Option α) : impl_trim_L0 N (n + 1) v360 k0 = impl_trim_L0r N (fun y0 => impl_trim_L0 N n y0 k0) k0 v360 := by rw [impl_trim_L0.eq]; rfl
/-- impl.trim -/
noncomputable def impl_trim.b {α : Type} (N : Nat) (a359 : List Int) (k0 : List Int → Option α) : Option α :=
 impl_trim_L0 N N a359
  (fun x370 =>
   k0 x370)
theorem impl_trim.ex : ∃ f : ((α : Type) → Nat → List Int → (List Int → Option α) → Option α), f = fun α => @impl_trim.b α := ⟨_, rfl⟩
noncomputable def impl_trim {α : Type} : Nat → List Int → (List Int → Option α) → Option α := Classical.choose impl_trim.ex α
theorem impl_trim.eq : @impl_trim = @impl_trim.b := funext fun α => congrFun (Classical.choose_spec impl_trim.ex) α

noncomputable def math_bits_Len64_J1.b {α : Type} (N : Nat) (v380 : Int) (v381 : Int) (k0 : Int → Int → Option α) : Option α :=
 let x382 := (decide ((4294967296 : Int) ≤ v380))
 bif x382 then
  let x383 := (shrI .u64 v380 (32 : Int))
  k0 x383 (32 : Int)
 else
  k0 v380 v381
theorem math_bits_Len64_J1.ex : ∃ f : ((α : Type) → Nat → Int → Int → (Int → Int → Option α) → Option α), f = fun α => @math_bits_Len64_J1.b α := ⟨_, rfl⟩
noncomputable def math_bits_Len64_J1 {α : Type} : Nat → Int → Int → (Int → Int → Option α) → Option α := Classical.choose math_bits_Len64_J1.ex α
theorem math_bits_Len64_J1.eq : @math_bits_Len64_J1 = @math_bits_Len64_J1.b := funext fun α => congrFun (Classical.choose_spec math_bits_Len64_J1.ex) α
noncomputable def math_bits_Len64_J4.b {α : Type} (N : Nat) (v386 : Int) (v387 : Int) (k0 : Int → Int → Option α) : Option α :=
 let x388 := (decide ((65536 : Int) ≤ v386))
 bif x388 then
  let x389 := (shrI .u64 v386 (16 : Int))
  let x390 := (IntKind.i64.wrap (v387 + (16 : Int)))
  k0 x389 x390
 else
  k0 v386 v387
theorem math_bits_Len64_J4.ex : ∃ f : ((α : Type) → Nat → Int → Int → (Int → Int → Option α) → Option α), f = fun α => @math_bits_Len64_J4.b α := ⟨_, rfl⟩
noncomputable def math_bits_Len64_J4 {α : Type} : Nat → Int → Int → (Int → Int → Option α) → Option α := Classical.choose math_bits_Len64_J4.ex α
theorem math_bits_Len64_J4.eq : @math_bits_Len64_J4 = @math_bits_Len64_J4.b := funext fun α => congrFun (Classical.choose_spec math_bits_Len64_J4.ex) α
noncomputable def math_bits_Len64_J7.b {α : Type} (N : Nat) (v393 : Int) (v394 : Int) (k0 : Int → Int → Option α) : Option α :=
 let x395 := (decide ((256 : Int) ≤ v393))
 bif x395 then
  let x396 := (shrI .u64 v393 (8 : Int))
  let x397 := (IntKind.i64.wrap (v394 + (8 : Int)))
  k0 x396 x397
 else
  k0 v393 v394
theorem math_bits_Len64_J7.ex : ∃ f : ((α : Type) → Nat → Int → Int → (Int → Int → Option α) → Option α), f = fun α => @math_bits_Len64_J7.b α := ⟨_, rfl⟩
noncomputable def math_bits_Len64_J7 {α : Type} : Nat → Int → Int → (Int → Int → Option α) → Option α := Classical.choose math_bits_Len64_J7.ex α
theorem math_bits_Len64_J7.eq : @math_bits_Len64_J7 = @math_bits_Len64_J7.b := funext fun α => congrFun (Classical.choose_spec math_bits_Len64_J7.ex) α
/-- math/bits.Len64 -/
noncomputable def math_bits_Len64.b {α : Type} (N : Nat) (a379 : Int) (k0 : Int → Option α) : Option α :=
 math_bits_Len64_J1 N a379 (0 : Int)
  (fun x384 x385 =>
   math_bits_Len64_J4 N x384 x385
    (fun x391 x392 =>
     math_bits_Len64_J7 N x391 x392
      (fun x398 x399 =>
       let x400 := IntKind.u8.wrap x398
       bif (decide (x400 < (0 : Int))) then
        none
       else
        match ((⟨#[0, 1, 2, 2, 3, 3, 3, 3, 4, 4, 4, 4, 4, 4, 4, 4, 5, 5, 5, 5, 5, 5, 5, 5, 5, 5, 5, 5, 5, 5, 5, 5, 6, 6, 6, 6, 6, 6, 6, 6, 6, 6, 6, 6, 6, 6, 6, 6, 6, 6, 6, 6, 6, 6, 6, 6, 6, 6, 6, 6, 6, 6, 6, 6, 7, 7, 7, 7, 7, 7, 7, 7, 7, 7, 7, 7, 7, 7, 7, 7, 7, 7, 7, 7, 7, 7, 7, 7, 7, 7, 7, 7, 7, 7, 7, 7, 7, 7, 7, 7, 7, 7, 7, 7, 7, 7, 7, 7, 7, 7, 7, 7, 7, 7, 7, 7, 7, 7, 7, 7, 7, 7, 7, 7, 7, 7, 7, 7, 8, 8, 8, 8, 8, 8, 8, 8, 8, 8, 8, 8, 8, 8, 8, 8, 8, 8, 8, 8, 8, 8, 8, 8, 8, 8, 8, 8, 8, 8, 8, 8, 8, 8, 8, 8, 8, 8, 8, 8, 8, 8, 8, 8, 8, 8, 8, 8, 8, 8, 8, 8, 8, 8, 8, 8, 8, 8, 8, 8, 8, 8, 8, 8, 8, 8, 8, 8, 8, 8, 8, 8, 8, 8, 8, 8, 8, 8, 8, 8, 8, 8, 8, 8, 8, 8, 8, 8, 8, 8, 8, 8, 8, 8, 8, 8, 8, 8, 8, 8, 8, 8, 8, 8, 8, 8, 8, 8, 8, 8, 8, 8, 8, 8, 8, 8, 8, 8, 8, 8, 8, 8, 8, 8, 8, 8, 8, 8]⟩ : ByteArray)[x400.toNat]? : Option UInt8) with
        | some x401 =>
         let x402 := ((x401.toNat : Nat) : Int)
         let x403 := IntKind.i64.wrap x402
         let x404 := IntKind.i64.wrap (x399 + x403)
         k0 x404
        | none => none)))
theorem math_bits_Len64.ex : ∃ f : ((α : Type) → Nat → Int → (Int → Option α) → Option α), f = fun α => @math_bits_Len64.b α := ⟨_, rfl⟩
noncomputable def math_bits_Len64 {α : Type} : Nat → Int → (Int → Option α) → Option α := Classical.choose math_bits_Len64.ex α
theorem math_bits_Len64.eq : @math_bits_Len64 = @math_bits_Len64.b := funext fun α => congrFun (Classical.choose_spec math_bits_Len64.ex) α

/-- math/bits.Len -/
noncomputable def math_bits_Len.b {α : Type} (N : Nat) (a378 : Int) (k0 : Int → Option α) : Option α :=
 math_bits_Len64 N a378
  (fun x405 =>
   k0 x405)
theorem math_bits_Len.ex : ∃ f : ((α : Type) → Nat → Int → (Int → Option α) → Option α), f = fun α => @math_bits_Len.b α := ⟨_, rfl⟩
noncomputable def math_bits_Len {α : Type} : Nat → Int → (Int → Option α) → Option α := Classical.choose math_bits_Len.ex α
theorem math_bits_Len.eq : @math_bits_Len = @math_bits_Len.b := funext fun α => congrFun (Classical.choose_spec math_bits_Len.ex) α

/-- slices.Clone[[]int,int] -/
noncomputable def slices_Clone_int_int {α : Type} (N : Nat) (a1 : List Int) (k0 : List Int → Option α) : Option α :=
  bif decide (([] : List Int).length + a1.length ≤ 8796093022208) then k0 a1 else none

noncomputable def impl_natShift_J10.b {α : Type} (N : Nat) (v484 : List Int) (v485 : Int) (v486 : Int) (v487 : Int) (v488 : Int) (v489 : Int) (v490 : List Int) (k0 : List Int → Int → Int → Int → Int → List Int → Option α) : Option α :=
 let x491 := IntKind.i64.wrap (v485 + v487)
 let x492 := (IntKind.i64.wrap (x491 + (1 : Int)))
 let x493 := ((v484.length : Nat) : Int)
 let x494 := decide (x492 < x493)
 bif x494 then
  bif (decide (v487 < (0 : Int))) then
   none
  else
   bif decide (v487.toNat < v490.length) then
    match v490[v487.toNat]? with
    | some x495 =>
     let x496 := IntKind.i64.wrap (v485 + v487)
     let x497 := (IntKind.i64.wrap (x496 + (1 : Int)))
     bif (decide (x497 < (0 : Int))) then
      none
     else
      match v484[x497.toNat]? with
      | some x498 =>
       let x499 := (IntKind.i64.wrap ((16 : Int) - v486))
       bif (decide (x499 < (0 : Int))) then
        none
       else
        let x500 := shlI .i64 x498 x499
        let x501 := (bitI .and .i64 x500 (65535 : Int))
        let x502 := bitI .or .i64 x495 x501
        bif (decide (v487 < (0 : Int))) then
         none
        else
         bif decide (v487.toNat < v490.length) then
          match v490[v487.toNat]? with
          | some x503 =>
           let x504 := v490.set v487.toNat x502
           k0 v484 v485 v486 v488 v489 x504
          | none => none
         else
          none
      | none => none
    | none => none
   else
    none
 else
  k0 v484 v485 v486 v488 v489 v490
theorem impl_natShift_J10.ex : ∃ f : ((α : Type) → Nat → List Int → Int → Int → Int → Int → Int → List Int → (List Int → Int → Int → Int → Int → List Int → Option α) → Option α), f = fun α => @impl_natShift_J10.b α := ⟨_, rfl⟩
noncomputable def impl_natShift_J10 {α : Type} : Nat → List Int → Int → Int → Int → Int → Int → List Int → (List Int → Int → Int → Int → Int → List Int → Option α) → Option α := Classical.choose impl_natShift_J10.ex α
theorem impl_natShift_J10.eq : @impl_natShift_J10 = @impl_natShift_J10.b := funext fun α => congrFun (Classical.choose_spec impl_natShift_J10.ex) α
noncomputable def impl_natShift_L0r {α : Type} (N : Nat) (next : List Int → Int → Int → Int → Int → List Int → Option α) (k0 : List Int → Option α) (v473 : List Int) (v474 : Int) (v475 : Int) (v476 : Int) (v477 : Int) (v478 : List Int) : Option α :=
 let x479 := decide (v477 < v476)
 bif x479 then
  bif (decide (v477 < (0 : Int))) then
   none
  else
   bif decide (v477.toNat < v478.length) then
    match v478[v477.toNat]? with
    | some x480 =>
     bif (decide (v475 < (0 : Int))) then
      none
     else
      let x481 := shrI .i64 x480 v475
      bif (decide (v477 < (0 : Int))) then
       none
      else
       bif decide (v477.toNat < v478.length) then
        match v478[v477.toNat]? with
        | some x482 =>
         let x483 := v478.set v477.toNat x481
         impl_natShift_J10 N v473 v474 v475 v477 v476 v477 x483
          (fun x505 x506 x507 x508 x509 x510 =>
           let x511 := (IntKind.i64.wrap (x509 + (1 : Int)))
           next x505 x506 x507 x508 x511 x510)
        | none => none
       else
        none
    | none => none
   else
    none
 else
  k0 v478
noncomputable def impl_natShift_L0.b {α : Type} (N n : Nat) (v473 : List Int) (v474 : Int) (v475 : Int) (v476 : Int) (v477 : Int) (v478 : List Int) (k0 : List Int → Option α) : Option α :=
  Nat.rec (motive := fun _ => List Int → Int → Int → Int → Int → List Int → Option α) (fun _ _ _ _ _ _ => none) (fun _ next => impl_natShift_L0r N next k0) n v473 v474 v475 v476 v477 v478
theorem impl_natShift_L0.ex : ∃ f : ((α : Type) → Nat → Nat → List Int → Int → Int → Int → Int → List Int → (List Int → Option α) → Option α), f = fun α => @impl_natShift_L0.b α := ⟨_, rfl⟩
noncomputable def impl_natShift_L0 {α : Type} : Nat → Nat → List Int → Int → Int → Int → Int → List Int → (List Int → Option α) → Option α := Classical.choose impl_natShift_L0.ex α
theorem impl_natShift_L0.eq : @impl_natShift_L0 = @impl_natShift_L0.b := funext fun α => congrFun (Classical.choose_spec impl_natShift_L0.ex) α
theorem impl_natShift_L0.zero {α : Type} (N : Nat) (v473 : List Int) (v474 : Int) (v475 : Int) (v476 : Int) (v477 : Int) (v478 : List Int) (k0 : List Int → Option α) : impl_natShift_L0 N 0 v473 v474 v475 v476 v477 v478 k0 = none := by rw [impl_natShift_L0.eq]; rfl
theorem impl_natShift_L0.succ {α : Type} (N n : Nat) (v473 : List Int) (v474 : Int) (v475 : Int) (v476 : Int) (v477 : Int) (v478 : List Int) (k0 : List Int → Option α) : impl_natShift_L0 N (n + 1) v473 v474 v475 v476 v477 v478 k0 = impl_natShift_L0r N (fun y0 y1 y2 y3 y4 y5 => impl_natShift_L0 N n y0 y1 y2 y3 y4 y5 k0) k0 v473 v474 v475 v476 v477 v478 := by rw [impl_natShift_L0.eq]; rfl
noncomputable def impl_natShift_L2r {α : Type} (N : Nat) (next : Int → List Int → Int → Int → List Int → Option α) (k0 : List Int → Option α) (v520 : Int) (v521 : List Int) (v522 : Int) (v523 : Int) (v524 : List Int) : Option α :=
 let x525 := decide (v523 < v522)
 bif x525 then
  bif (decide (v523 < (0 : Int))) then
   none
  else
   match v521[v523.toNat]? with
   | some x526 =>
    let x527 := (Int.tmod v520 (16 : Int))
    bif (decide (x527 < (0 : Int))) then
     none
    else
     let x528 := shlI .i64 x526 x527
     let x529 := (IntKind.i64.wrap (Int.tdiv v520 (16 : Int)))
     let x530 := IntKind.i64.wrap (x529 + v523)
     bif (decide (x530 < (0 : Int))) then
      none
     else
      bif decide (x530.toNat < v524.length) then
       match v524[x530.toNat]? with
       | some x531 =>
        let x532 := (bitI .and .i64 x528 (65535 : Int))
        let x533 := bitI .or .i64 x531 x532
        bif (decide (x530 < (0 : Int))) then
         none
        else
         bif decide (x530.toNat < v524.length) then
          match v524[x530.toNat]? with
          | some x534 =>
           let x535 := v524.set x530.toNat x533
           let x536 := (IntKind.i64.wrap (Int.tdiv v520 (16 : Int)))
           let x537 := IntKind.i64.wrap (x536 + v523)
           let x538 := (IntKind.i64.wrap (x537 + (1 : Int)))
           let x539 := (shrI .i64 x528 (16 : Int))
           bif (decide (x538 < (0 : Int))) then
            none
           else
            bif decide (x538.toNat < x535.length) then
             match x535[x538.toNat]? with
             | some x540 =>
              let x541 := x535.set x538.toNat x539
              let x542 := (IntKind.i64.wrap (v523 + (1 : Int)))
              next v520 v521 v522 x542 x541
             | none => none
            else
             none
          | none => none
         else
          none
       | none => none
      else
       none
   | none => none
 else
  k0 v524
noncomputable def impl_natShift_L2.b {α : Type} (N n : Nat) (v520 : Int) (v521 : List Int) (v522 : Int) (v523 : Int) (v524 : List Int) (k0 : List Int → Option α) : Option α :=
  Nat.rec (motive := fun _ => Int → List Int → Int → Int → List Int → Option α) (fun _ _ _ _ _ => none) (fun _ next => impl_natShift_L2r N next k0) n v520 v521 v522 v523 v524
theorem impl_natShift_L2.ex : ∃ f : ((α : Type) → Nat → Nat → Int → List Int → Int → Int → List Int → (List Int → Option α) → Option α), f = fun α => @impl_natShift_L2.b α := ⟨_, rfl⟩
noncomputable def impl_natShift_L2 {α : Type} : Nat → Nat → Int → List Int → Int → Int → List Int → (List Int → Option α) → Option α := Classical.choose impl_natShift_L2.ex α
theorem impl_natShift_L2.eq : @impl_natShift_L2 = @impl_natShift_L2.b := funext fun α => congrFun (Classical.choose_spec impl_natShift_L2.ex) α
theorem impl_natShift_L2.zero {α : Type} (N : Nat) (v520 : Int) (v521 : List Int) (v522 : Int) (v523 : Int) (v524 : List Int) (k0 : List Int → Option α) : impl_natShift_L2 N 0 v520 v521 v522 v523 v524 k0 = none := by rw [impl_natShift_L2.eq]; rfl
theorem impl_natShift_L2.succ {α : Type} (N n : Nat) (v520 : Int) (v521 : List Int) (v522 : Int) (v523 : Int) (v524 : List Int) (k0 : List Int → Option α) : impl_natShift_L2 N (n + 1) v520 v521 v522 v523 v524 k0 = impl_natShift_L2r N (fun y0 y1 y2 y3 y4 => impl_natShift_L2 N n y0 y1 y2 y3 y4 k0) k0 v520 v521 v522 v523 v524 := by rw [impl_natShift_L2.eq]; rfl
/-- impl.natShift -/
noncomputable def impl_natShift.b {α : Type} (N : Nat) (a461 : List Int) (a462 : Int) (k0 : List Int → Option α) : Option α :=
 let x463 := (decide (a462 < (0 : Int)))
 bif x463 then
  let x464 := IntKind.i64.wrap (0 - a462)
  let x465 := (IntKind.i64.wrap (Int.tdiv x464 (16 : Int)))
  let x466 := IntKind.i64.wrap (0 - a462)
  let x467 := (Int.tmod x466 (16 : Int))
  let x468 := ((a461.length : Nat) : Int)
  let x469 := decide (x468 ≤ x465)
  bif x469 then
   k0 []
  else
   bif (decide ((0 : Int) ≤ x465)) then
    bif (decide (x465 ≤ ((a461.length : Nat) : Int))) then
     let x470 := a461.drop x465.toNat
     slices_Clone_int_int N x470
      (fun x471 =>
       let x472 := ((x471.length : Nat) : Int)
       impl_natShift_L0 N N a461 x465 x467 x472 (0 : Int) x471
        (fun x512 =>
         impl_trim N x512
          (fun x513 =>
           k0 x513)))
    else
     none
   else
    none
 else
  let x514 := (IntKind.i64.wrap (Int.tdiv a462 (16 : Int)))
  let x515 := ((a461.length : Nat) : Int)
  let x516 := IntKind.i64.wrap (x514 + x515)
  let x517 := (IntKind.i64.wrap (x516 + (1 : Int)))
  bif (decide ((0 : Int) ≤ x517)) then
   bif decide (x517 ≤ x517) then
    bif (decide (x517 ≤ ((8796093022208 : Nat) : Int))) then
     let x518 := (List.replicate x517.toNat (0 : Int))
     let x519 := ((a461.length : Nat) : Int)
     impl_natShift_L2 N N a462 a461 x519 (0 : Int) x518
      (fun x543 =>
       impl_trim N x543
        (fun x544 =>
         k0 x544))
    else
     none
   else
    none
  else
   none
theorem impl_natShift.ex : ∃ f : ((α : Type) → Nat → List Int → Int → (List Int → Option α) → Option α), f = fun α => @impl_natShift.b α := ⟨_, rfl⟩
noncomputable def impl_natShift {α : Type} : Nat → List Int → Int → (List Int → Option α) → Option α := Classical.choose impl_natShift.ex α
theorem impl_natShift.eq : @impl_natShift = @impl_natShift.b := funext fun α => congrFun (Classical.choose_spec impl_natShift.ex) α

noncomputable def impl_natDiv_L0r {α : Type} (N : Nat) (next : List Int → List Int → Int → Int → List Int → Option α) (k0 : Int → List Int → Option α) (v341 : List Int) (v342 : List Int) (v343 : Int) (v344 : Int) (v345 : List Int) : Option α :=
 let x346 := (decide ((0 : Int) ≤ v344))
 bif x346 then
  let x347 := (shlI .i64 v343 (16 : Int))
  bif (decide (v344 < (0 : Int))) then
   none
  else
   match v341[v344.toNat]? with
   | some x348 =>
    let x349 := bitI .or .i64 x347 x348
    match v342[0]? with
    | some x350 =>
     bif (decide (x350 = (0 : Int))) then
      none
     else
      let x351 := IntKind.i64.wrap (Int.tdiv x349 x350)
      match v342[0]? with
      | some x352 =>
       bif (decide (x352 = (0 : Int))) then
        none
       else
        let x353 := Int.tmod x349 x352
        bif (decide (v344 < (0 : Int))) then
         none
        else
         bif decide (v344.toNat < v345.length) then
          match v345[v344.toNat]? with
          | some x354 =>
           let x355 := v345.set v344.toNat x351
           let x356 := (IntKind.i64.wrap (v344 - (1 : Int)))
           next v341 v342 x353 x356 x355
          | none => none
         else
          none
      | none => none
    | none => none
   | none => none
 else
  k0 v343 v345
noncomputable def impl_natDiv_L0.b {α : Type} (N n : Nat) (v341 : List Int) (v342 : List Int) (v343 : Int) (v344 : Int) (v345 : List Int) (k0 : Int → List Int → Option α) : Option α :=
  Nat.rec (motive := fun _ => List Int → List Int → Int → Int → List Int → Option α) (fun _ _ _ _ _ => none) (fun _ next => impl_natDiv_L0r N next k0) n v341 v342 v343 v344 v345
theorem impl_natDiv_L0.ex : ∃ f : ((α : Type) → Nat → Nat → List Int → List Int → Int → Int → List Int → (Int → List Int → Option α) → Option α), f = fun α => @impl_natDiv_L0.b α := ⟨_, rfl⟩
noncomputable def impl_natDiv_L0 {α : Type} : Nat → Nat → List Int → List Int → Int → Int → List Int → (Int → List Int → Option α) → Option α := Classical.choose impl_natDiv_L0.ex α
theorem impl_natDiv_L0.eq : @impl_natDiv_L0 = @impl_natDiv_L0.b := funext fun α => congrFun (Classical.choose_spec impl_natDiv_L0.ex) α
theorem impl_natDiv_L0.zero {α : Type} (N : Nat) (v341 : List Int) (v342 : List Int) (v343 : Int) (v344 : Int) (v345 : List Int) (k0 : Int → List Int → Option α) : impl_natDiv_L0 N 0 v341 v342 v343 v344 v345 k0 = none := by rw [impl_natDiv_L0.eq]; rfl
theorem impl_natDiv_L0.succ {α : Type} (N n : Nat) (v341 : List Int) (v342 : List Int) (v343 : Int) (v344 : Int) (v345 : List Int) (k0 : Int → List Int → Option α) : impl_natDiv_L0 N (n + 1) v341 v342 v343 v344 v345 k0 = impl_natDiv_L0r N (fun y0 y1 y2 y3 y4 => impl_natDiv_L0 N n y0 y1 y2 y3 y4 k0) k0 v341 v342 v343 v344 v345 := by rw [impl_natDiv_L0.eq]; rfl
noncomputable def impl_natDiv_L2r {α : Type} (N : Nat) (next : List Int → Int → List Int → Int → List Int → Option α) (k0 : Int → List Int → Int → List Int → Option α) (v551 : List Int) (v552 : Int) (v553 : List Int) (v554 : Int) (v555 : List Int) : Option α :=
 let x556 := ((v555.length : Nat) : Int)
 let x557 := ((v551.length : Nat) : Int)
 let x558 := (IntKind.i64.wrap (x557 + (1 : Int)))
 let x559 := decide (x556 < x558)
 bif x559 then
  let x560 := [(0 : Int)]
  bif decide (v555.length + x560.length ≤ 8796093022208) then
   let x561 := v555 ++ x560
   next v551 v552 v553 v554 x561
  else
   none
 else
  k0 v552 v553 v554 v555
noncomputable def impl_natDiv_L2.b {α : Type} (N n : Nat) (v551 : List Int) (v552 : Int) (v553 : List Int) (v554 : Int) (v555 : List Int) (k0 : Int → List Int → Int → List Int → Option α) : Option α :=
  Nat.rec (motive := fun _ => List Int → Int → List Int → Int → List Int → Option α) (fun _ _ _ _ _ => none) (fun _ next => impl_natDiv_L2r N next k0) n v551 v552 v553 v554 v555
theorem impl_natDiv_L2.ex : ∃ f : ((α : Type) → Nat → Nat → List Int → Int → List Int → Int → List Int → (Int → List Int → Int → List Int → Option α) → Option α), f = fun α => @impl_natDiv_L2.b α := ⟨_, rfl⟩
noncomputable def impl_natDiv_L2 {α : Type} : Nat → Nat → List Int → Int → List Int → Int → List Int → (Int → List Int → Int → List Int → Option α) → Option α := Classical.choose impl_natDiv_L2.ex α
theorem impl_natDiv_L2.eq : @impl_natDiv_L2 = @impl_natDiv_L2.b := funext fun α => congrFun (Classical.choose_spec impl_natDiv_L2.ex) α
theorem impl_natDiv_L2.zero {α : Type} (N : Nat) (v551 : List Int) (v552 : Int) (v553 : List Int) (v554 : Int) (v555 : List Int) (k0 : Int → List Int → Int → List Int → Option α) : impl_natDiv_L2 N 0 v551 v552 v553 v554 v555 k0 = none := by rw [impl_natDiv_L2.eq]; rfl
theorem impl_natDiv_L2.succ {α : Type} (N n : Nat) (v551 : List Int) (v552 : Int) (v553 : List Int) (v554 : Int) (v555 : List Int) (k0 : Int → List Int → Int → List Int → Option α) : impl_natDiv_L2 N (n + 1) v551 v552 v553 v554 v555 k0 = impl_natDiv_L2r N (fun y0 y1 y2 y3 y4 => impl_natDiv_L2 N n y0 y1 y2 y3 y4 k0) k0 v551 v552 v553 v554 v555 := by rw [impl_natDiv_L2.eq]; rfl
noncomputable def impl_natDiv_L6r {α : Type} (N : Nat) (next : Int → List Int → Int → Int → Int → Int → List Int → List Int → Option α) (k0 : Int → List Int → Int → Int → Int → List Int → List Int → Option α) (v592 : Int) (v593 : List Int) (v594 : Int) (v595 : Int) (v596 : Int) (v597 : Int) (v598 : List Int) (v599 : List Int) : Option α :=
 let x600 := (decide ((65536 : Int) ≤ v596))
 bif x600 then
  let x601 := (IntKind.i64.wrap (v596 - (1 : Int)))
  let x602 := (IntKind.i64.wrap (v594 - (1 : Int)))
  bif (decide (x602 < (0 : Int))) then
   none
  else
   match v593[x602.toNat]? with
   | some x603 =>
    let x604 := IntKind.i64.wrap (v597 + x603)
    let x605 := (decide ((65536 : Int) ≤ x604))
    bif x605 then
     k0 v592 v593 v594 v595 x601 v598 v599
    else
     next v592 v593 v594 v595 x601 x604 v598 v599
   | none => none
 else
  let x606 := (IntKind.i64.wrap (v594 - (2 : Int)))
  bif (decide (x606 < (0 : Int))) then
   none
  else
   match v593[x606.toNat]? with
   | some x607 =>
    let x608 := IntKind.i64.wrap (v596 * x607)
    let x609 := (shlI .i64 v597 (16 : Int))
    let x610 := IntKind.i64.wrap (v595 + v594)
    let x611 := (IntKind.i64.wrap (x610 - (2 : Int)))
    bif (decide (x611 < (0 : Int))) then
     none
    else
     bif decide (x611.toNat < v598.length) then
      match v598[x611.toNat]? with
      | some x612 =>
       let x613 := bitI .or .i64 x609 x612
       let x614 := decide (x613 < x608)
       bif x614 then
        let x615 := (IntKind.i64.wrap (v596 - (1 : Int)))
        let x616 := (IntKind.i64.wrap (v594 - (1 : Int)))
        bif (decide (x616 < (0 : Int))) then
         none
        else
         match v593[x616.toNat]? with
         | some x617 =>
          let x618 := IntKind.i64.wrap (v597 + x617)
          let x619 := (decide ((65536 : Int) ≤ x618))
          bif x619 then
           k0 v592 v593 v594 v595 x615 v598 v599
          else
           next v592 v593 v594 v595 x615 x618 v598 v599
         | none => none
       else
        k0 v592 v593 v594 v595 v596 v598 v599
      | none => none
     else
      none
   | none => none
noncomputable def impl_natDiv_L6.b {α : Type} (N n : Nat) (v592 : Int) (v593 : List Int) (v594 : Int) (v595 : Int) (v596 : Int) (v597 : Int) (v598 : List Int) (v599 : List Int) (k0 : Int → List Int → Int → Int → Int → List Int → List Int → Option α) : Option α :=
  Nat.rec (motive := fun _ => Int → List Int → Int → Int → Int → Int → List Int → List Int → Option α) (fun _ _ _ _ _ _ _ _ => none) (fun _ next => impl_natDiv_L6r N next k0) n v592 v593 v594 v595 v596 v597 v598 v599
theorem impl_natDiv_L6.ex : ∃ f : ((α : Type) → Nat → Nat → Int → List Int → Int → Int → Int → Int → List Int → List Int → (Int → List Int → Int → Int → Int → List Int → List Int → Option α) → Option α), f = fun α => @impl_natDiv_L6.b α := ⟨_, rfl⟩
noncomputable def impl_natDiv_L6 {α : Type} : Nat → Nat → Int → List Int → Int → Int → Int → Int → List Int → List Int → (Int → List Int → Int → Int → Int → List Int → List Int → Option α) → Option α := Classical.choose impl_natDiv_L6.ex α
theorem impl_natDiv_L6.eq : @impl_natDiv_L6 = @impl_natDiv_L6.b := funext fun α => congrFun (Classical.choose_spec impl_natDiv_L6.ex) α
theorem impl_natDiv_L6.zero {α : Type} (N : Nat) (v592 : Int) (v593 : List Int) (v594 : Int) (v595 : Int) (v596 : Int) (v597 : Int) (v598 : List Int) (v599 : List Int) (k0 : Int → List Int → Int → Int → Int → List Int → List Int → Option α) : impl_natDiv_L6 N 0 v592 v593 v594 v595 v596 v597 v598 v599 k0 = none := by rw [impl_natDiv_L6.eq]; rfl
theorem impl_natDiv_L6.succ {α : Type} (N n : Nat) (v592 : Int) (v593 : List Int) (v594 : Int) (v595 : Int) (v596 : Int) (v597 : Int) (v598 : List Int) (v599 : List Int) (k0 : Int → List Int → Int → Int → Int → List Int → List Int → Option α) : impl_natDiv_L6 N (n + 1) v592 v593 v594 v595 v596 v597 v598 v599 k0 = impl_natDiv_L6r N (fun y0 y1 y2 y3 y4 y5 y6 y7 => impl_natDiv_L6 N n y0 y1 y2 y3 y4 y5 y6 y7 k0) k0 v592 v593 v594 v595 v596 v597 v598 v599 := by rw [impl_natDiv_L6.eq]; rfl
noncomputable def impl_natDiv_J34.b {α : Type} (N : Nat) (v646 : Int) (v647 : List Int) (v648 : Int) (v649 : Int) (v650 : Int) (v651 : Int) (v652 : Int) (v653 : Int) (v654 : List Int) (v655 : Int) (v656 : Int) (v657 : List Int) (v658 : List Int) (k0 : Int → List Int → Int → Int → Int → Int → Int → Int → List Int → Int → Int → List Int → List Int → Option α) : Option α :=
 let x659 := (decide (v653 < (0 : Int)))
 bif x659 then
  let x660 := IntKind.i64.wrap (0 - v653)
  let x661 := (IntKind.i64.wrap (x660 + (65536 : Int)))
  let x662 := (IntKind.i64.wrap (x661 - (1 : Int)))
  let x663 := (IntKind.i64.wrap (Int.tdiv x662 (65536 : Int)))
  let x664 := (IntKind.i64.wrap (x663 * (65536 : Int)))
  let x665 := IntKind.i64.wrap (v653 + x664)
  k0 v646 v647 v648 v649 v650 x663 v652 x665 v654 v655 v656 v657 v658
 else
  k0 v646 v647 v648 v649 v650 v651 v652 v653 v654 v655 v656 v657 v658
theorem impl_natDiv_J34.ex : ∃ f : ((α : Type) → Nat → Int → List Int → Int → Int → Int → Int → Int → Int → List Int → Int → Int → List Int → List Int → (Int → List Int → Int → Int → Int → Int → Int → Int → List Int → Int → Int → List Int → List Int → Option α) → Option α), f = fun α => @impl_natDiv_J34.b α := ⟨_, rfl⟩
noncomputable def impl_natDiv_J34 {α : Type} : Nat → Int → List Int → Int → Int → Int → Int → Int → Int → List Int → Int → Int → List Int → List Int → (Int → List Int → Int → Int → Int → Int → Int → Int → List Int → Int → Int → List Int → List Int → Option α) → Option α := Classical.choose impl_natDiv_J34.ex α
theorem impl_natDiv_J34.eq : @impl_natDiv_J34 = @impl_natDiv_J34.b := funext fun α => congrFun (Classical.choose_spec impl_natDiv_J34.ex) α
noncomputable def impl_natDiv_L8r {α : Type} (N : Nat) (next : Int → List Int → Int → Int → Int → Int → List Int → Int → Int → List Int → List Int → Option α) (k0 : Int → List Int → Int → Int → Int → Int → List Int → List Int → Option α) (v628 : Int) (v629 : List Int) (v630 : Int) (v631 : Int) (v632 : Int) (v633 : Int) (v634 : List Int) (v635 : Int) (v636 : Int) (v637 : List Int) (v638 : List Int) : Option α :=
 let x639 := decide (v636 < v635)
 bif x639 then
  bif (decide (v636 < (0 : Int))) then
   none
  else
   match v634[v636.toNat]? with
   | some x640 =>
    let x641 := IntKind.i64.wrap (v631 + v636)
    bif (decide (x641 < (0 : Int))) then
     none
    else
     bif decide (x641.toNat < v637.length) then
      match v637[x641.toNat]? with
      | some x642 =>
       let x643 := IntKind.i64.wrap (x642 - v633)
       let x644 := IntKind.i64.wrap (v632 * x640)
       let x645 := IntKind.i64.wrap (x643 - x644)
       impl_natDiv_J34 N v628 v629 v630 v631 v632 (0 : Int) v636 x645 v634 v635 v636 v637 v638
        (fun x666 x667 x668 x669 x670 x671 x672 x673 x674 x675 x676 x677 x678 =>
         let x679 := IntKind.i64.wrap (x669 + x672)
         bif (decide (x679 < (0 : Int))) then
          none
         else
          bif decide (x679.toNat < x677.length) then
           match x677[x679.toNat]? with
           | some x680 =>
            let x681 := x677.set x679.toNat x673
            let x682 := (IntKind.i64.wrap (x676 + (1 : Int)))
            next x666 x667 x668 x669 x670 x671 x674 x675 x682 x681 x678
           | none => none
          else
           none)
      | none => none
     else
      none
   | none => none
 else
  k0 v628 v629 v630 v631 v632 v633 v637 v638
noncomputable def impl_natDiv_L8.b {α : Type} (N n : Nat) (v628 : Int) (v629 : List Int) (v630 : Int) (v631 : Int) (v632 : Int) (v633 : Int) (v634 : List Int) (v635 : Int) (v636 : Int) (v637 : List Int) (v638 : List Int) (k0 : Int → List Int → Int → Int → Int → Int → List Int → List Int → Option α) : Option α :=
  Nat.rec (motive := fun _ => Int → List Int → Int → Int → Int → Int → List Int → Int → Int → List Int → List Int → Option α) (fun _ _ _ _ _ _ _ _ _ _ _ => none) (fun _ next => impl_natDiv_L8r N next k0) n v628 v629 v630 v631 v632 v633 v634 v635 v636 v637 v638
theorem impl_natDiv_L8.ex : ∃ f : ((α : Type) → Nat → Nat → Int → List Int → Int → Int → Int → Int → List Int → Int → Int → List Int → List Int → (Int → List Int → Int → Int → Int → Int → List Int → List Int → Option α) → Option α), f = fun α => @impl_natDiv_L8.b α := ⟨_, rfl⟩
noncomputable def impl_natDiv_L8 {α : Type} : Nat → Nat → Int → List Int → Int → Int → Int → Int → List Int → Int → Int → List Int → List Int → (Int → List Int → Int → Int → Int → Int → List Int → List Int → Option α) → Option α := Classical.choose impl_natDiv_L8.ex α
theorem impl_natDiv_L8.eq : @impl_natDiv_L8 = @impl_natDiv_L8.b := funext fun α => congrFun (Classical.choose_spec impl_natDiv_L8.ex) α
theorem impl_natDiv_L8.zero {α : Type} (N : Nat) (v628 : Int) (v629 : List Int) (v630 : Int) (v631 : Int) (v632 : Int) (v633 : Int) (v634 : List Int) (v635 : Int) (v636 : Int) (v637 : List Int) (v638 : List Int) (k0 : Int → List Int → Int → Int → Int → Int → List Int → List Int → Option α) : impl_natDiv_L8 N 0 v628 v629 v630 v631 v632 v633 v634 v635 v636 v637 v638 k0 = none := by rw [impl_natDiv_L8.eq]; rfl
theorem impl_natDiv_L8.succ {α : Type} (N n : Nat) (v628 : Int) (v629 : List Int) (v630 : Int) (v631 : Int) (v632 : Int) (v633 : Int) (v634 : List Int) (v635 : Int) (v636 : Int) (v637 : List Int) (v638 : List Int) (k0 : Int → List Int → Int → Int → Int → Int → List Int → List Int → Option α) : impl_natDiv_L8 N (n + 1) v628 v629 v630 v631 v632 v633 v634 v635 v636 v637 v638 k0 = impl_natDiv_L8r N (fun y0 y1 y2 y3 y4 y5 y6 y7 y8 y9 y10 => impl_natDiv_L8 N n y0 y1 y2 y3 y4 y5 y6 y7 y8 y9 y10 k0) k0 v628 v629 v630 v631 v632 v633 v634 v635 v636 v637 v638 := by rw [impl_natDiv_L8.eq]; rfl
noncomputable def impl_natDiv_L10r {α : Type} (N : Nat) (next : Int → List Int → Int → Int → Int → Int → List Int → Int → Int → List Int → List Int → Option α) (k0 : Int → List Int → Int → Int → Int → Int → List Int → List Int → Option α) (v708 : Int) (v709 : List Int) (v710 : Int) (v711 : Int) (v712 : Int) (v713 : Int) (v714 : List Int) (v715 : Int) (v716 : Int) (v717 : List Int) (v718 : List Int) : Option α :=
 let x719 := decide (v716 < v715)
 bif x719 then
  bif (decide (v716 < (0 : Int))) then
   none
  else
   match v714[v716.toNat]? with
   | some x720 =>
    let x721 := IntKind.i64.wrap (v711 + v716)
    bif (decide (x721 < (0 : Int))) then
     none
    else
     bif decide (x721.toNat < v717.length) then
      match v717[x721.toNat]? with
      | some x722 =>
       let x723 := IntKind.i64.wrap (x722 + x720)
       let x724 := IntKind.i64.wrap (x723 + v713)
       let x725 := IntKind.i64.wrap (v711 + v716)
       let x726 := (bitI .and .i64 x724 (65535 : Int))
       let x727 := (shrI .i64 x724 (16 : Int))
       bif (decide (x725 < (0 : Int))) then
        none
       else
        bif decide (x725.toNat < v717.length) then
         match v717[x725.toNat]? with
         | some x728 =>
          let x729 := v717.set x725.toNat x726
          let x730 := (IntKind.i64.wrap (v716 + (1 : Int)))
          next v708 v709 v710 v711 v712 x727 v714 v715 x730 x729 v718
         | none => none
        else
         none
      | none => none
     else
      none
   | none => none
 else
  k0 v708 v709 v710 v711 v712 v713 v717 v718
noncomputable def impl_natDiv_L10.b {α : Type} (N n : Nat) (v708 : Int) (v709 : List Int) (v710 : Int) (v711 : Int) (v712 : Int) (v713 : Int) (v714 : List Int) (v715 : Int) (v716 : Int) (v717 : List Int) (v718 : List Int) (k0 : Int → List Int → Int → Int → Int → Int → List Int → List Int → Option α) : Option α :=
  Nat.rec (motive := fun _ => Int → List Int → Int → Int → Int → Int → List Int → Int → Int → List Int → List Int → Option α) (fun _ _ _ _ _ _ _ _ _ _ _ => none) (fun _ next => impl_natDiv_L10r N next k0) n v708 v709 v710 v711 v712 v713 v714 v715 v716 v717 v718
theorem impl_natDiv_L10.ex : ∃ f : ((α : Type) → Nat → Nat → Int → List Int → Int → Int → Int → Int → List Int → Int → Int → List Int → List Int → (Int → List Int → Int → Int → Int → Int → List Int → List Int → Option α) → Option α), f = fun α => @impl_natDiv_L10.b α := ⟨_, rfl⟩
noncomputable def impl_natDiv_L10 {α : Type} : Nat → Nat → Int → List Int → Int → Int → Int → Int → List Int → Int → Int → List Int → List Int → (Int → List Int → Int → Int → Int → Int → List Int → List Int → Option α) → Option α := Classical.choose impl_natDiv_L10.ex α
theorem impl_natDiv_L10.eq : @impl_natDiv_L10 = @impl_natDiv_L10.b := funext fun α => congrFun (Classical.choose_spec impl_natDiv_L10.ex) α
theorem impl_natDiv_L10.zero {α : Type} (N : Nat) (v708 : Int) (v709 : List Int) (v710 : Int) (v711 : Int) (v712 : Int) (v713 : Int) (v714 : List Int) (v715 : Int) (v716 : Int) (v717 : List Int) (v718 : List Int) (k0 : Int → List Int → Int → Int → Int → Int → List Int → List Int → Option α) : impl_natDiv_L10 N 0 v708 v709 v710 v711 v712 v713 v714 v715 v716 v717 v718 k0 = none := by rw [impl_natDiv_L10.eq]; rfl
theorem impl_natDiv_L10.succ {α : Type} (N n : Nat) (v708 : Int) (v709 : List Int) (v710 : Int) (v711 : Int) (v712 : Int) (v713 : Int) (v714 : List Int) (v715 : Int) (v716 : Int) (v717 : List Int) (v718 : List Int) (k0 : Int → List Int → Int → Int → Int → Int → List Int → List Int → Option α) : impl_natDiv_L10 N (n + 1) v708 v709 v710 v711 v712 v713 v714 v715 v716 v717 v718 k0 = impl_natDiv_L10r N (fun y0 y1 y2 y3 y4 y5 y6 y7 y8 y9 y10 => impl_natDiv_L10 N n y0 y1 y2 y3 y4 y5 y6 y7 y8 y9 y10 k0) k0 v708 v709 v710 v711 v712 v713 v714 v715 v716 v717 v718 := by rw [impl_natDiv_L10.eq]; rfl
noncomputable def impl_natDiv_J40.b {α : Type} (N : Nat) (v696 : Int) (v697 : List Int) (v698 : Int) (v699 : Int) (v700 : Int) (v701 : List Int) (v702 : List Int) (k0 : Int → List Int → Int → Int → Int → List Int → List Int → Option α) : Option α :=
 let x703 := IntKind.i64.wrap (v699 + v698)
 bif (decide (x703 < (0 : Int))) then
  none
 else
  bif decide (x703.toNat < v701.length) then
   match v701[x703.toNat]? with
   | some x704 =>
    let x705 := (decide (x704 < (0 : Int)))
    bif x705 then
     let x706 := (IntKind.i64.wrap (v700 - (1 : Int)))
     let x707 := ((v697.length : Nat) : Int)
     impl_natDiv_L10 N N v696 v697 v698 v699 x706 (0 : Int) v697 x707 (0 : Int) v701 v702
      (fun x731 x732 x733 x734 x735 x736 x737 x738 =>
       let x739 := IntKind.i64.wrap (x734 + x733)
       bif (decide (x739 < (0 : Int))) then
        none
       else
        bif decide (x739.toNat < x737.length) then
         match x737[x739.toNat]? with
         | some x740 =>
          let x741 := IntKind.i64.wrap (x740 + x736)
          bif (decide (x739 < (0 : Int))) then
           none
          else
           bif decide (x739.toNat < x737.length) then
            match x737[x739.toNat]? with
            | some x742 =>
             let x743 := x737.set x739.toNat x741
             k0 x731 x732 x733 x734 x735 x743 x738
            | none => none
           else
            none
         | none => none
        else
         none)
    else
     k0 v696 v697 v698 v699 v700 v701 v702
   | none => none
  else
   none
theorem impl_natDiv_J40.ex : ∃ f : ((α : Type) → Nat → Int → List Int → Int → Int → Int → List Int → List Int → (Int → List Int → Int → Int → Int → List Int → List Int → Option α) → Option α), f = fun α => @impl_natDiv_J40.b α := ⟨_, rfl⟩
noncomputable def impl_natDiv_J40 {α : Type} : Nat → Int → List Int → Int → Int → Int → List Int → List Int → (Int → List Int → Int → Int → Int → List Int → List Int → Option α) → Option α := Classical.choose impl_natDiv_J40.ex α
theorem impl_natDiv_J40.eq : @impl_natDiv_J40 = @impl_natDiv_J40.b := funext fun α => congrFun (Classical.choose_spec impl_natDiv_J40.ex) α
noncomputable def impl_natDiv_L4r {α : Type} (N : Nat) (next : Int → List Int → Int → Int → List Int → List Int → Option α) (k0 : Int → List Int → List Int → Option α) (v572 : Int) (v573 : List Int) (v574 : Int) (v575 : Int) (v576 : List Int) (v577 : List Int) : Option α :=
 let x578 := (decide ((0 : Int) ≤ v575))
 bif x578 then
  let x579 := IntKind.i64.wrap (v575 + v574)
  bif (decide (x579 < (0 : Int))) then
   none
  else
   bif decide (x579.toNat < v576.length) then
    match v576[x579.toNat]? with
    | some x580 =>
     let x581 := (shlI .i64 x580 (16 : Int))
     let x582 := IntKind.i64.wrap (v575 + v574)
     let x583 := (IntKind.i64.wrap (x582 - (1 : Int)))
     bif (decide (x583 < (0 : Int))) then
      none
     else
      bif decide (x583.toNat < v576.length) then
       match v576[x583.toNat]? with
       | some x584 =>
        let x585 := bitI .or .i64 x581 x584
        let x586 := (IntKind.i64.wrap (v574 - (1 : Int)))
        bif (decide (x586 < (0 : Int))) then
         none
        else
         match v573[x586.toNat]? with
         | some x587 =>
          bif (decide (x587 = (0 : Int))) then
           none
          else
           let x588 := IntKind.i64.wrap (Int.tdiv x585 x587)
           let x589 := (IntKind.i64.wrap (v574 - (1 : Int)))
           bif (decide (x589 < (0 : Int))) then
            none
           else
            match v573[x589.toNat]? with
            | some x590 =>
             bif (decide (x590 = (0 : Int))) then
              none
             else
              let x591 := Int.tmod x585 x590
              impl_natDiv_L6 N N v572 v573 v574 v575 x588 x591 v576 v577
               (fun x620 x621 x622 x623 x624 x625 x626 =>
                let x627 := ((x621.length : Nat) : Int)
                impl_natDiv_L8 N N x620 x621 x622 x623 x624 (0 : Int) x621 x627 (0 : Int) x625 x626
                 (fun x683 x684 x685 x686 x687 x688 x689 x690 =>
                  let x691 := IntKind.i64.wrap (x686 + x685)
                  bif (decide (x691 < (0 : Int))) then
                   none
                  else
                   bif decide (x691.toNat < x689.length) then
                    match x689[x691.toNat]? with
                    | some x692 =>
                     let x693 := IntKind.i64.wrap (x692 - x688)
                     bif (decide (x691 < (0 : Int))) then
                      none
                     else
                      bif decide (x691.toNat < x689.length) then
                       match x689[x691.toNat]? with
                       | some x694 =>
                        let x695 := x689.set x691.toNat x693
                        impl_natDiv_J40 N x683 x684 x685 x686 x687 x695 x690
                         (fun x744 x745 x746 x747 x748 x749 x750 =>
                          bif (decide (x747 < (0 : Int))) then
                           none
                          else
                           bif decide (x747.toNat < x750.length) then
                            match x750[x747.toNat]? with
                            | some x751 =>
                             let x752 := x750.set x747.toNat x748
                             let x753 := (IntKind.i64.wrap (x747 - (1 : Int)))
                             next x744 x745 x746 x753 x749 x752
                            | none => none
                           else
                            none)
                       | none => none
                      else
                       none
                    | none => none
                   else
                    none))
            | none => none
         | none => none
       | none => none
      else
       none
    | none => none
   else
    none
 else
  k0 v572 v576 v577
noncomputable def impl_natDiv_L4.b {α : Type} (N n : Nat) (v572 : Int) (v573 : List Int) (v574 : Int) (v575 : Int) (v576 : List Int) (v577 : List Int) (k0 : Int → List Int → List Int → Option α) : Option α :=
  Nat.rec (motive := fun _ => Int → List Int → Int → Int → List Int → List Int → Option α) (fun _ _ _ _ _ _ => none) (fun _ next => impl_natDiv_L4r N next k0) n v572 v573 v574 v575 v576 v577
theorem impl_natDiv_L4.ex : ∃ f : ((α : Type) → Nat → Nat → Int → List Int → Int → Int → List Int → List Int → (Int → List Int → List Int → Option α) → Option α), f = fun α => @impl_natDiv_L4.b α := ⟨_, rfl⟩
noncomputable def impl_natDiv_L4 {α : Type} : Nat → Nat → Int → List Int → Int → Int → List Int → List Int → (Int → List Int → List Int → Option α) → Option α := Classical.choose impl_natDiv_L4.ex α
theorem impl_natDiv_L4.eq : @impl_natDiv_L4 = @impl_natDiv_L4.b := funext fun α => congrFun (Classical.choose_spec impl_natDiv_L4.ex) α
theorem impl_natDiv_L4.zero {α : Type} (N : Nat) (v572 : Int) (v573 : List Int) (v574 : Int) (v575 : Int) (v576 : List Int) (v577 : List Int) (k0 : Int → List Int → List Int → Option α) : impl_natDiv_L4 N 0 v572 v573 v574 v575 v576 v577 k0 = none := by rw [impl_natDiv_L4.eq]; rfl
theorem impl_natDiv_L4.succ {α : Type} (N n : Nat) (v572 : Int) (v573 : List Int) (v574 : Int) (v575 : Int) (v576 : List Int) (v577 : List Int) (k0 : Int → List Int → List Int → Option α) : impl_natDiv_L4 N (n + 1) v572 v573 v574 v575 v576 v577 k0 = impl_natDiv_L4r N (fun y0 y1 y2 y3 y4 y5 => impl_natDiv_L4 N n y0 y1 y2 y3 y4 y5 k0) k0 v572 v573 v574 v575 v576 v577 := by rw [impl_natDiv_L4.eq]; rfl
/-- impl.natDiv -/
noncomputable def impl_natDiv.b {α : Type} (N : Nat) (a305 : List Int) (a306 : List Int) (k0 : List Int → List Int → Option α) : Option α :=
 impl_natCmp N a305 a306
  (fun x333 =>
   let x334 := (decide (x333 < (0 : Int)))
   bif x334 then
    k0 [] a305
   else
    let x335 := ((a306.length : Nat) : Int)
    let x336 := (decide (x335 = (1 : Int)))
    bif x336 then
     let x337 := ((a305.length : Nat) : Int)
     bif (decide ((0 : Int) ≤ x337)) then
      bif decide (x337 ≤ x337) then
       bif (decide (x337 ≤ ((8796093022208 : Nat) : Int))) then
        let x338 := (List.replicate x337.toNat (0 : Int))
        let x339 := ((a305.length : Nat) : Int)
        let x340 := (IntKind.i64.wrap (x339 - (1 : Int)))
        impl_natDiv_L0 N N a305 a306 (0 : Int) x340 x338
         (fun x357 x358 =>
          impl_trim N x358
           (fun x371 =>
            let x372 := [x357]
            impl_trim N x372
             (fun x373 =>
              k0 x371 x373)))
       else
        none
      else
       none
     else
      none
    else
     let x374 := ((a306.length : Nat) : Int)
     let x375 := (IntKind.i64.wrap (x374 - (1 : Int)))
     bif (decide (x375 < (0 : Int))) then
      none
     else
      match a306[x375.toNat]? with
      | some x376 =>
       let x377 := IntKind.u64.wrap x376
       math_bits_Len N x377
        (fun x406 =>
         let x407 := (IntKind.i64.wrap ((16 : Int) - x406))
         impl_natShift N a306 x407
          (fun x545 =>
           impl_natShift N a305 x407
            (fun x546 =>
             slices_Clone_int_int N x546
              (fun x547 =>
               let x548 := [(0 : Int)]
               bif decide (x547.length + x548.length ≤ 8796093022208) then
                let x549 := x547 ++ x548
                let x550 := ((x545.length : Nat) : Int)
                impl_natDiv_L2 N N a305 x407 x545 x550 x549
                 (fun x562 x563 x564 x565 =>
                  let x566 := ((x565.length : Nat) : Int)
                  let x567 := IntKind.i64.wrap (x566 - x564)
                  bif (decide ((0 : Int) ≤ x567)) then
                   bif decide (x567 ≤ x567) then
                    bif (decide (x567 ≤ ((8796093022208 : Nat) : Int))) then
                     let x568 := (List.replicate x567.toNat (0 : Int))
                     let x569 := ((x565.length : Nat) : Int)
                     let x570 := IntKind.i64.wrap (x569 - x564)
                     let x571 := (IntKind.i64.wrap (x570 - (1 : Int)))
                     impl_natDiv_L4 N N x562 x563 x564 x571 x565 x568
                      (fun x754 x755 x756 =>
                       impl_trim N x756
                        (fun x757 =>
                         impl_trim N x755
                          (fun x758 =>
                           let x759 := IntKind.i64.wrap (0 - x754)
                           impl_natShift N x758 x759
                            (fun x760 =>
                             k0 x757 x760))))
                    else
                     none
                   else
                    none
                  else
                   none)
               else
                none))))
      | none => none)
theorem impl_natDiv.ex : ∃ f : ((α : Type) → Nat → List Int → List Int → (List Int → List Int → Option α) → Option α), f = fun α => @impl_natDiv.b α := ⟨_, rfl⟩
noncomputable def impl_natDiv {α : Type} : Nat → List Int → List Int → (List Int → List Int → Option α) → Option α := Classical.choose impl_natDiv.ex α
theorem impl_natDiv.eq : @impl_natDiv = @impl_natDiv.b := funext fun α => congrFun (Classical.choose_spec impl_natDiv.ex) α

-- prim strconv_Itoa
-- prim strings_Repeat
noncomputable def impl_natText_J7.b {α : Type} (N : Nat) (v763 : ByteArray) (v764 : List Int) (v765 : List Int) (v766 : Int) (k0 : ByteArray → List Int → Int → Option α) : Option α :=
 let x767 := ((v765.length : Nat) : Int)
 let x768 := (decide ((0 : Int) < x767))
 bif x768 then
  match v765[0]? with
  | some x769 =>
   k0 v763 v764 x769
  | none => none
 else
  k0 v763 v764 v766
theorem impl_natText_J7.ex : ∃ f : ((α : Type) → Nat → ByteArray → List Int → List Int → Int → (ByteArray → List Int → Int → Option α) → Option α), f = fun α => @impl_natText_J7.b α := ⟨_, rfl⟩
noncomputable def impl_natText_J7 {α : Type} : Nat → ByteArray → List Int → List Int → Int → (ByteArray → List Int → Int → Option α) → Option α := Classical.choose impl_natText_J7.ex α
theorem impl_natText_J7.eq : @impl_natText_J7 = @impl_natText_J7.b := funext fun α => congrFun (Classical.choose_spec impl_natText_J7.ex) α
noncomputable def impl_natText_J10.b {α : Type} (N : Nat) (v774 : ByteArray) (v775 : List Int) (v776 : ByteArray) (k0 : ByteArray → List Int → ByteArray → Option α) : Option α :=
 let x777 := ((v775.length : Nat) : Int)
 let x778 := (decide ((0 : Int) < x777))
 bif x778 then
  let x779 := ((v776.size : Nat) : Int)
  let x780 := (IntKind.i64.wrap ((4 : Int) - x779))
  strings_Repeat N (⟨#[48]⟩ : ByteArray) x780
   (fun x781 =>
    bif decide (x781.size + v776.size ≤ 9223372036854775807) then
     let x782 := x781 ++ v776
     k0 v774 v775 x782
    else
     none)
 else
  k0 v774 v775 v776
theorem impl_natText_J10.ex : ∃ f : ((α : Type) → Nat → ByteArray → List Int → ByteArray → (ByteArray → List Int → ByteArray → Option α) → Option α), f = fun α => @impl_natText_J10.b α := ⟨_, rfl⟩
noncomputable def impl_natText_J10 {α : Type} : Nat → ByteArray → List Int → ByteArray → (ByteArray → List Int → ByteArray → Option α) → Option α := Classical.choose impl_natText_J10.ex α
theorem impl_natText_J10.eq : @impl_natText_J10 = @impl_natText_J10.b := funext fun α => congrFun (Classical.choose_spec impl_natText_J10.ex) α
noncomputable def impl_natText_L0r {α : Type} (N : Nat) (next : List Int → ByteArray → Option α) (k0 : ByteArray → Option α) (v231 : List Int) (v232 : ByteArray) : Option α :=
 let x233 := ((v231.length : Nat) : Int)
 let x234 := (decide ((0 : Int) < x233))
 bif x234 then
  let x235 := [(10000 : Int)]
  impl_natDiv N v231 x235
   (fun x761 x762 =>
    impl_natText_J7 N v232 x761 x762 (0 : Int)
     (fun x770 x771 x772 =>
      strconv_Itoa N x772
       (fun x773 =>
        impl_natText_J10 N x770 x771 x773
         (fun x783 x784 x785 =>
          bif decide (x785.size + x783.size ≤ 9223372036854775807) then
           let x786 := x785 ++ x783
           next x784 x786
          else
           none))))
 else
  k0 v232
noncomputable def impl_natText_L0.b {α : Type} (N n : Nat) (v231 : List Int) (v232 : ByteArray) (k0 : ByteArray → Option α) : Option α :=
  Nat.rec (motive := fun _ => List Int → ByteArray → Option α) (fun _ _ => none) (fun _ next => impl_natText_L0r N next k0) n v231 v232
theorem impl_natText_L0.ex : ∃ f : ((α : Type) → Nat → Nat → List Int → ByteArray → (ByteArray → Option α) → Option α), f = fun α => @impl_natText_L0.b α := ⟨_, rfl⟩
noncomputable def impl_natText_L0 {α : Type} : Nat → Nat → List Int → ByteArray → (ByteArray → Option α) → Option α := Classical.choose impl_natText_L0.ex α
theorem impl_natText_L0.eq : @impl_natText_L0 = @impl_natText_L0.b := funext fun α => congrFun (Classical.choose_spec impl_natText_L0.ex) α
theorem impl_natText_L0.zero {α : Type} (N : Nat) (v231 : List Int) (v232 : ByteArray) (k0 : ByteArray → Option α) : impl_natText_L0 N 0 v231 v232 k0 = none := by rw [impl_natText_L0.eq]; rfl
theorem impl_natText_L0.succ {α : Type} (N n : Nat) (v231 : List Int) (v232 : ByteArray) (k0 : ByteArray → Option α) : impl_natText_L0 N (n + 1) v231 v232 k0 = impl_natText_L0r N (fun y0 y1 => impl_natText_L0 N n y0 y1 k0) k0 v231 v232 := by rw [impl_natText_L0.eq]; rfl
/-- impl.natText -/
noncomputable def impl_natText.b {α : Type} (N : Nat) (a228 : List Int) (k0 : ByteArray → Option α) : Option α :=
 let x229 := ((a228.length : Nat) : Int)
 let x230 := (decide (x229 = (0 : Int)))
 bif x230 then
  k0 (⟨#[48]⟩ : ByteArray)
 else
  impl_natText_L0 N N a228 ByteArray.empty
   (fun x787 =>
    k0 x787)
theorem impl_natText.ex : ∃ f : ((α : Type) → Nat → List Int → (ByteArray → Option α) → Option α), f = fun α => @impl_natText.b α := ⟨_, rfl⟩
noncomputable def impl_natText {α : Type} : Nat → List Int → (ByteArray → Option α) → Option α := Classical.choose impl_natText.ex α
theorem impl_natText.eq : @impl_natText = @impl_natText.b := funext fun α => congrFun (Classical.choose_spec impl_natText.ex) α

/-- impl.NatText -/
noncomputable def impl_NatText.b {α : Type} (N : Nat) (a191 : List Int) (k0 : ByteArray → Option α) : Option α :=
 impl_NatOk N a191
  (fun x226 =>
   let x227 := !x226
   bif x227 then
    k0 ByteArray.empty
   else
    impl_natText N a191
     (fun x788 =>
      k0 x788))
theorem impl_NatText.ex : ∃ f : ((α : Type) → Nat → List Int → (ByteArray → Option α) → Option α), f = fun α => @impl_NatText.b α := ⟨_, rfl⟩
noncomputable def impl_NatText {α : Type} : Nat → List Int → (ByteArray → Option α) → Option α := Classical.choose impl_NatText.ex α
theorem impl_NatText.eq : @impl_NatText = @impl_NatText.b := funext fun α => congrFun (Classical.choose_spec impl_NatText.ex) α

noncomputable def laws_eqIntS_L0r {α : Type} (N : Nat) (next : List Int → List Int → Int → Option α) (k0 : Bool → Option α) (k1 : Option α) (v797 : List Int) (v798 : List Int) (v799 : Int) : Option α :=
 let x800 := ((v797.length : Nat) : Int)
 let x801 := decide (v799 < x800)
 bif x801 then
  bif (decide (v799 < (0 : Int))) then
   none
  else
   match v797[v799.toNat]? with
   | some x802 =>
    bif (decide (v799 < (0 : Int))) then
     none
    else
     match v798[v799.toNat]? with
     | some x803 =>
      let x804 := !(decide (x802 = x803))
      bif x804 then
       k0 false
      else
       let x805 := (IntKind.i64.wrap (v799 + (1 : Int)))
       next v797 v798 x805
     | none => none
   | none => none
 else
  k1
noncomputable def laws_eqIntS_L0.b {α : Type} (N n : Nat) (v797 : List Int) (v798 : List Int) (v799 : Int) (k0 : Bool → Option α) (k1 : Option α) : Option α :=
  Nat.rec (motive := fun _ => List Int → List Int → Int → Option α) (fun _ _ _ => none) (fun _ next => laws_eqIntS_L0r N next k0 k1) n v797 v798 v799
theorem laws_eqIntS_L0.ex : ∃ f : ((α : Type) → Nat → Nat → List Int → List Int → Int → (Bool → Option α) → (Option α) → Option α), f = fun α => @laws_eqIntS_L0.b α := ⟨_, rfl⟩
noncomputable def laws_eqIntS_L0 {α : Type} : Nat → Nat → List Int → List Int → Int → (Bool → Option α) → (Option α) → Option α := Classical.choose laws_eqIntS_L0.ex α
theorem laws_eqIntS_L0.eq : @laws_eqIntS_L0 = @laws_eqIntS_L0.b := funext fun α => congrFun (Classical.choose_spec laws_eqIntS_L0.ex) α
theorem laws_eqIntS_L0.zero {α : Type} (N : Nat) (v797 : List Int) (v798 : List Int) (v799 : Int) (k0 : Bool → Option α) (k1 : Option α) : laws_eqIntS_L0 N 0 v797 v798 v799 k0 k1 = none := by rw [laws_eqIntS_L0.eq]; rfl
theorem laws_eqIntS_L0.succ {α : Type} (N n : Nat) (v797 : List Int) (v798 : List Int) (v799 : Int) (k0 : Bool → Option α) (k1 : Option α) : laws_eqIntS_L0 N (n + 1) v797 v798 v799 k0 k1 = laws_eqIntS_L0r N (fun y0 y1 y2 => laws_eqIntS_L0 N n y0 y1 y2 k0 k1) k0 k1 v797 v798 v799 := by rw [laws_eqIntS_L0.eq]; rfl
/-- laws.eqIntS -/
noncomputable def laws_eqIntS.b {α : Type} (N : Nat) (a792 : List Int) (a793 : List Int) (k0 : Bool → Option α) : Option α :=
 let x794 := ((a792.length : Nat) : Int)
 let x795 := ((a793.length : Nat) : Int)
 let x796 := !(decide (x794 = x795))
 bif x796 then
  k0 false
 else
  laws_eqIntS_L0 N N a792 a793 (0 : Int)
   (fun x806 =>
    k0 x806)
   (
    k0 true)
theorem laws_eqIntS.ex : ∃ f : ((α : Type) → Nat → List Int → List Int → (Bool → Option α) → Option α), f = fun α => @laws_eqIntS.b α := ⟨_, rfl⟩
noncomputable def laws_eqIntS {α : Type} : Nat → List Int → List Int → (Bool → Option α) → Option α := Classical.choose laws_eqIntS.ex α
theorem laws_eqIntS.eq : @laws_eqIntS = @laws_eqIntS.b := funext fun α => congrFun (Classical.choose_spec laws_eqIntS.ex) α

/-- laws.FnExactNatText -/
noncomputable def laws_FnExactNatText.b {α : Type} (N : Nat) (a1 : List Int) (k0 : Bool → Option α) : Option α :=
 let x2 := ((a1.length : Nat) : Int)
 let x3 := (decide ((1048576 : Int) < x2))
 bif x3 then
  k0 true
 else
  laws_toIntS N a1
   (fun x17 =>
    spec_NatText N x17
     (fun x189 =>
      laws_toIntS N a1
       (fun x190 =>
        impl_NatText N x190
         (fun x789 =>
          let x790 := !eqS x789 x189
          bif x790 then
           k0 false
          else
           laws_toIntS N a1
            (fun x791 =>
             laws_eqIntS N x190 x791
              (fun x807 =>
               let x808 := !x807
               bif x808 then
                k0 false
               else
                k0 true))))))
theorem laws_FnExactNatText.ex : ∃ f : ((α : Type) → Nat → List Int → (Bool → Option α) → Option α), f = fun α => @laws_FnExactNatText.b α := ⟨_, rfl⟩
noncomputable def laws_FnExactNatText {α : Type} : Nat → List Int → (Bool → Option α) → Option α := Classical.choose laws_FnExactNatText.ex α
theorem laws_FnExactNatText.eq : @laws_FnExactNatText = @laws_FnExactNatText.b := funext fun α => congrFun (Classical.choose_spec laws_FnExactNatText.ex) α

end
end Go.Proofs.YtgabephijgjogaaDoorAm
