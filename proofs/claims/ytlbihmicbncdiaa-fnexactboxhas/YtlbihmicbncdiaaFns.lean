/-
  The functions that the program computes, as the abstract machine tells them. Printed by amp.py.
-/
import Derived.Test.YtlbihmicbncdiaaAmb
namespace Go.Proofs.YtlbihmicbncdiaaAm
open Go
noncomputable section
set_option linter.unusedVariables false
set_option linter.unusedSimpArgs false

/-- loop.example/pinfold/laws.szPairS -/
noncomputable def laws_szPairS.b {α : Type} (N : Nat) (a6 : List (Int × Int × Unit)) (a7 : Int) (k0 : Int → Option α) : Option α :=
  let x8 := ((a6.length : Nat) : Int)
  let x9 := IntKind.i64.wrap (a7 - x8)
  let x10 := (decide (x9 < (0 : Int)))
  bif x10 then
    k0 (-1 : Int)
  else
    k0 x9
theorem laws_szPairS.ex : ∃ f : ((α : Type) → Nat → List (Int × Int × Unit) → Int → (Int → Option α) → Option α), f = fun α => @laws_szPairS.b α := ⟨_, rfl⟩
noncomputable def laws_szPairS {α : Type} : Nat → List (Int × Int × Unit) → Int → (Int → Option α) → Option α := Classical.choose laws_szPairS.ex α
theorem laws_szPairS.eq : @laws_szPairS = @laws_szPairS.b := funext fun α => congrFun (Classical.choose_spec laws_szPairS.ex) α

/-- loop.example/pinfold/laws.szBox -/
noncomputable def laws_szBox.b {α : Type} (N : Nat) (a4 : (List (Int × Int × Unit)) × Unit) (a5 : Int) (k0 : Int → Option α) : Option α :=
  laws_szPairS N a4.1 a5
    (fun x11 =>
      let x12 := (decide (x11 < (0 : Int)))
      bif x12 then
        k0 (-1 : Int)
      else
        k0 x11)
theorem laws_szBox.ex : ∃ f : ((α : Type) → Nat → ((List (Int × Int × Unit)) × Unit) → Int → (Int → Option α) → Option α), f = fun α => @laws_szBox.b α := ⟨_, rfl⟩
noncomputable def laws_szBox {α : Type} : Nat → ((List (Int × Int × Unit)) × Unit) → Int → (Int → Option α) → Option α := Classical.choose laws_szBox.ex α
theorem laws_szBox.eq : @laws_szBox = @laws_szBox.b := funext fun α => congrFun (Classical.choose_spec laws_szBox.ex) α

/-- loop.example/pinfold/laws.szIntS -/
noncomputable def laws_szIntS.b {α : Type} (N : Nat) (a28 : List Int) (a29 : Int) (k0 : Int → Option α) : Option α :=
  let x30 := ((a28.length : Nat) : Int)
  let x31 := IntKind.i64.wrap (a29 - x30)
  let x32 := (decide (x31 < (0 : Int)))
  bif x32 then
    k0 (-1 : Int)
  else
    k0 x31
theorem laws_szIntS.ex : ∃ f : ((α : Type) → Nat → List Int → Int → (Int → Option α) → Option α), f = fun α => @laws_szIntS.b α := ⟨_, rfl⟩
noncomputable def laws_szIntS {α : Type} : Nat → List Int → Int → (Int → Option α) → Option α := Classical.choose laws_szIntS.ex α
theorem laws_szIntS.eq : @laws_szIntS = @laws_szIntS.b := funext fun α => congrFun (Classical.choose_spec laws_szIntS.ex) α

/-- loop.example/pinfold/laws.szFrac -/
noncomputable def laws_szFrac.b {α : Type} (N : Nat) (a26 : Bool × (List Int) × (List Int) × Unit) (a27 : Int) (k0 : Int → Option α) : Option α :=
  laws_szIntS N a26.2.1 a27
    (fun x33 =>
      let x34 := (decide (x33 < (0 : Int)))
      bif x34 then
        k0 (-1 : Int)
      else
        laws_szIntS N a26.2.2.1 x33
          (fun x35 =>
            let x36 := (decide (x35 < (0 : Int)))
            bif x36 then
              k0 (-1 : Int)
            else
              k0 x35))
theorem laws_szFrac.ex : ∃ f : ((α : Type) → Nat → (Bool × (List Int) × (List Int) × Unit) → Int → (Int → Option α) → Option α), f = fun α => @laws_szFrac.b α := ⟨_, rfl⟩
noncomputable def laws_szFrac {α : Type} : Nat → (Bool × (List Int) × (List Int) × Unit) → Int → (Int → Option α) → Option α := Classical.choose laws_szFrac.ex α
theorem laws_szFrac.eq : @laws_szFrac = @laws_szFrac.b := funext fun α => congrFun (Classical.choose_spec laws_szFrac.ex) α

noncomputable def laws_szFracS_L0r {α : Type} (N : Nat) (next : List (Bool × (List Int) × (List Int) × Unit) → Int → Int → Option α) (k0 : Int → Option α) (k1 : Int → Option α) (v20 : List (Bool × (List Int) × (List Int) × Unit)) (v21 : Int) (v22 : Int) : Option α :=
  let x23 := ((v20.length : Nat) : Int)
  let x24 := decide (v22 < x23)
  bif x24 then
    bif (decide (v22 < (0 : Int))) then
      none
    else
      match v20[v22.toNat]? with
      | some x25 =>
        laws_szFrac N x25 v21
          (fun x37 =>
            let x38 := (decide (x37 < (0 : Int)))
            bif x38 then
              k0 (-1 : Int)
            else
              let x39 := (IntKind.i64.wrap (v22 + (1 : Int)))
              next v20 x37 x39)
      | none => none
  else
    k1 v21
noncomputable def laws_szFracS_L0.b {α : Type} (N n : Nat) (v20 : List (Bool × (List Int) × (List Int) × Unit)) (v21 : Int) (v22 : Int) (k0 : Int → Option α) (k1 : Int → Option α) : Option α :=
  Nat.rec (motive := fun _ => List (Bool × (List Int) × (List Int) × Unit) → Int → Int → Option α) (fun _ _ _ => none) (fun _ next => laws_szFracS_L0r N next k0 k1) n v20 v21 v22
theorem laws_szFracS_L0.ex : ∃ f : ((α : Type) → Nat → Nat → List (Bool × (List Int) × (List Int) × Unit) → Int → Int → (Int → Option α) → (Int → Option α) → Option α), f = fun α => @laws_szFracS_L0.b α := ⟨_, rfl⟩
noncomputable def laws_szFracS_L0 {α : Type} : Nat → Nat → List (Bool × (List Int) × (List Int) × Unit) → Int → Int → (Int → Option α) → (Int → Option α) → Option α := Classical.choose laws_szFracS_L0.ex α
theorem laws_szFracS_L0.eq : @laws_szFracS_L0 = @laws_szFracS_L0.b := funext fun α => congrFun (Classical.choose_spec laws_szFracS_L0.ex) α
theorem laws_szFracS_L0.zero {α : Type} (N : Nat) (v20 : List (Bool × (List Int) × (List Int) × Unit)) (v21 : Int) (v22 : Int) (k0 : Int → Option α) (k1 : Int → Option α) : laws_szFracS_L0 N 0 v20 v21 v22 k0 k1 = none := by rw [laws_szFracS_L0.eq]; rfl
theorem laws_szFracS_L0.succ {α : Type} (N n : Nat) (v20 : List (Bool × (List Int) × (List Int) × Unit)) (v21 : Int) (v22 : Int) (k0 : Int → Option α) (k1 : Int → Option α) : laws_szFracS_L0 N (n + 1) v20 v21 v22 k0 k1 = laws_szFracS_L0r N (fun y0 y1 y2 => laws_szFracS_L0 N n y0 y1 y2 k0 k1) k0 k1 v20 v21 v22 := by rw [laws_szFracS_L0.eq]; rfl
/-- loop.example/pinfold/laws.szFracS -/
noncomputable def laws_szFracS.b {α : Type} (N : Nat) (a15 : List (Bool × (List Int) × (List Int) × Unit)) (a16 : Int) (k0 : Int → Option α) : Option α :=
  let x17 := ((a15.length : Nat) : Int)
  let x18 := IntKind.i64.wrap (a16 - x17)
  let x19 := (decide (x18 < (0 : Int)))
  bif x19 then
    k0 (-1 : Int)
  else
    laws_szFracS_L0 N N a15 x18 (0 : Int)
      (fun x40 =>
        k0 x40)
      (fun x41 =>
        k0 x41)
theorem laws_szFracS.ex : ∃ f : ((α : Type) → Nat → List (Bool × (List Int) × (List Int) × Unit) → Int → (Int → Option α) → Option α), f = fun α => @laws_szFracS.b α := ⟨_, rfl⟩
noncomputable def laws_szFracS {α : Type} : Nat → List (Bool × (List Int) × (List Int) × Unit) → Int → (Int → Option α) → Option α := Classical.choose laws_szFracS.ex α
theorem laws_szFracS.eq : @laws_szFracS = @laws_szFracS.b := funext fun α => congrFun (Classical.choose_spec laws_szFracS.ex) α

/-- loop.example/pinfold/laws.toPair -/
noncomputable def laws_toPair.b {α : Type} (N : Nat) (a54 : Int × Int × Unit) (k0 : (Int × Int × Unit) → Option α) : Option α :=
  k0 (a54.1, (a54.2.1, ()))
theorem laws_toPair.ex : ∃ f : ((α : Type) → Nat → (Int × Int × Unit) → ((Int × Int × Unit) → Option α) → Option α), f = fun α => @laws_toPair.b α := ⟨_, rfl⟩
noncomputable def laws_toPair {α : Type} : Nat → (Int × Int × Unit) → ((Int × Int × Unit) → Option α) → Option α := Classical.choose laws_toPair.ex α
theorem laws_toPair.eq : @laws_toPair = @laws_toPair.b := funext fun α => congrFun (Classical.choose_spec laws_toPair.ex) α

noncomputable def laws_toPairS_L0r {α : Type} (N : Nat) (next : List (Int × Int × Unit) → Int → List (Int × Int × Unit) → Option α) (k0 : List (Int × Int × Unit) → Option α) (v48 : List (Int × Int × Unit)) (v49 : Int) (v50 : List (Int × Int × Unit)) : Option α :=
  let x51 := ((v48.length : Nat) : Int)
  let x52 := decide (v49 < x51)
  bif x52 then
    bif (decide (v49 < (0 : Int))) then
      none
    else
      match v48[v49.toNat]? with
      | some x53 =>
        laws_toPair N x53
          (fun x55 =>
            bif (decide (v49 < (0 : Int))) then
              none
            else
              bif decide (v49.toNat < v50.length) then
                match v50[v49.toNat]? with
                | some x56 =>
                  let x57 := v50.set v49.toNat x55
                  let x58 := (IntKind.i64.wrap (v49 + (1 : Int)))
                  next v48 x58 x57
                | none => none
              else
                none)
      | none => none
  else
    k0 v50
noncomputable def laws_toPairS_L0.b {α : Type} (N n : Nat) (v48 : List (Int × Int × Unit)) (v49 : Int) (v50 : List (Int × Int × Unit)) (k0 : List (Int × Int × Unit) → Option α) : Option α :=
  Nat.rec (motive := fun _ => List (Int × Int × Unit) → Int → List (Int × Int × Unit) → Option α) (fun _ _ _ => none) (fun _ next => laws_toPairS_L0r N next k0) n v48 v49 v50
theorem laws_toPairS_L0.ex : ∃ f : ((α : Type) → Nat → Nat → List (Int × Int × Unit) → Int → List (Int × Int × Unit) → (List (Int × Int × Unit) → Option α) → Option α), f = fun α => @laws_toPairS_L0.b α := ⟨_, rfl⟩
noncomputable def laws_toPairS_L0 {α : Type} : Nat → Nat → List (Int × Int × Unit) → Int → List (Int × Int × Unit) → (List (Int × Int × Unit) → Option α) → Option α := Classical.choose laws_toPairS_L0.ex α
theorem laws_toPairS_L0.eq : @laws_toPairS_L0 = @laws_toPairS_L0.b := funext fun α => congrFun (Classical.choose_spec laws_toPairS_L0.ex) α
theorem laws_toPairS_L0.zero {α : Type} (N : Nat) (v48 : List (Int × Int × Unit)) (v49 : Int) (v50 : List (Int × Int × Unit)) (k0 : List (Int × Int × Unit) → Option α) : laws_toPairS_L0 N 0 v48 v49 v50 k0 = none := by rw [laws_toPairS_L0.eq]; rfl
theorem laws_toPairS_L0.succ {α : Type} (N n : Nat) (v48 : List (Int × Int × Unit)) (v49 : Int) (v50 : List (Int × Int × Unit)) (k0 : List (Int × Int × Unit) → Option α) : laws_toPairS_L0 N (n + 1) v48 v49 v50 k0 = laws_toPairS_L0r N (fun y0 y1 y2 => laws_toPairS_L0 N n y0 y1 y2 k0) k0 v48 v49 v50 := by rw [laws_toPairS_L0.eq]; rfl
/-- loop.example/pinfold/laws.toPairS -/
noncomputable def laws_toPairS.b {α : Type} (N : Nat) (a45 : List (Int × Int × Unit)) (k0 : List (Int × Int × Unit) → Option α) : Option α :=
  let x46 := ((a45.length : Nat) : Int)
  bif (decide ((0 : Int) ≤ x46)) then
    bif decide (x46 ≤ x46) then
      bif (decide (x46 ≤ ((8796093022208 : Nat) : Int))) then
        let x47 := (List.replicate x46.toNat ((0 : Int), ((0 : Int), ())))
        laws_toPairS_L0 N N a45 (0 : Int) x47
          (fun x59 =>
            k0 x59)
      else
        none
    else
      none
  else
    none
theorem laws_toPairS.ex : ∃ f : ((α : Type) → Nat → List (Int × Int × Unit) → (List (Int × Int × Unit) → Option α) → Option α), f = fun α => @laws_toPairS.b α := ⟨_, rfl⟩
noncomputable def laws_toPairS {α : Type} : Nat → List (Int × Int × Unit) → (List (Int × Int × Unit) → Option α) → Option α := Classical.choose laws_toPairS.ex α
theorem laws_toPairS.eq : @laws_toPairS = @laws_toPairS.b := funext fun α => congrFun (Classical.choose_spec laws_toPairS.ex) α

/-- loop.example/pinfold/laws.toBox -/
noncomputable def laws_toBox.b {α : Type} (N : Nat) (a44 : (List (Int × Int × Unit)) × Unit) (k0 : List (Int × Int × Unit) → Option α) : Option α :=
  laws_toPairS N a44.1
    (fun x60 =>
      k0 x60)
theorem laws_toBox.ex : ∃ f : ((α : Type) → Nat → ((List (Int × Int × Unit)) × Unit) → (List (Int × Int × Unit) → Option α) → Option α), f = fun α => @laws_toBox.b α := ⟨_, rfl⟩
noncomputable def laws_toBox {α : Type} : Nat → ((List (Int × Int × Unit)) × Unit) → (List (Int × Int × Unit) → Option α) → Option α := Classical.choose laws_toBox.ex α
theorem laws_toBox.eq : @laws_toBox = @laws_toBox.b := funext fun α => congrFun (Classical.choose_spec laws_toBox.ex) α

noncomputable def laws_toIntS_L0r {α : Type} (N : Nat) (next : List Int → Int → List Int → Option α) (k0 : List Int → Option α) (v75 : List Int) (v76 : Int) (v77 : List Int) : Option α :=
  let x78 := ((v75.length : Nat) : Int)
  let x79 := decide (v76 < x78)
  bif x79 then
    bif (decide (v76 < (0 : Int))) then
      none
    else
      match v75[v76.toNat]? with
      | some x80 =>
        bif (decide (v76 < (0 : Int))) then
          none
        else
          bif decide (v76.toNat < v77.length) then
            match v77[v76.toNat]? with
            | some x81 =>
              let x82 := v77.set v76.toNat x80
              let x83 := (IntKind.i64.wrap (v76 + (1 : Int)))
              next v75 x83 x82
            | none => none
          else
            none
      | none => none
  else
    k0 v77
noncomputable def laws_toIntS_L0.b {α : Type} (N n : Nat) (v75 : List Int) (v76 : Int) (v77 : List Int) (k0 : List Int → Option α) : Option α :=
  Nat.rec (motive := fun _ => List Int → Int → List Int → Option α) (fun _ _ _ => none) (fun _ next => laws_toIntS_L0r N next k0) n v75 v76 v77
theorem laws_toIntS_L0.ex : ∃ f : ((α : Type) → Nat → Nat → List Int → Int → List Int → (List Int → Option α) → Option α), f = fun α => @laws_toIntS_L0.b α := ⟨_, rfl⟩
noncomputable def laws_toIntS_L0 {α : Type} : Nat → Nat → List Int → Int → List Int → (List Int → Option α) → Option α := Classical.choose laws_toIntS_L0.ex α
theorem laws_toIntS_L0.eq : @laws_toIntS_L0 = @laws_toIntS_L0.b := funext fun α => congrFun (Classical.choose_spec laws_toIntS_L0.ex) α
theorem laws_toIntS_L0.zero {α : Type} (N : Nat) (v75 : List Int) (v76 : Int) (v77 : List Int) (k0 : List Int → Option α) : laws_toIntS_L0 N 0 v75 v76 v77 k0 = none := by rw [laws_toIntS_L0.eq]; rfl
theorem laws_toIntS_L0.succ {α : Type} (N n : Nat) (v75 : List Int) (v76 : Int) (v77 : List Int) (k0 : List Int → Option α) : laws_toIntS_L0 N (n + 1) v75 v76 v77 k0 = laws_toIntS_L0r N (fun y0 y1 y2 => laws_toIntS_L0 N n y0 y1 y2 k0) k0 v75 v76 v77 := by rw [laws_toIntS_L0.eq]; rfl
/-- loop.example/pinfold/laws.toIntS -/
noncomputable def laws_toIntS.b {α : Type} (N : Nat) (a72 : List Int) (k0 : List Int → Option α) : Option α :=
  let x73 := ((a72.length : Nat) : Int)
  bif (decide ((0 : Int) ≤ x73)) then
    bif decide (x73 ≤ x73) then
      bif (decide (x73 ≤ ((8796093022208 : Nat) : Int))) then
        let x74 := (List.replicate x73.toNat (0 : Int))
        laws_toIntS_L0 N N a72 (0 : Int) x74
          (fun x84 =>
            k0 x84)
      else
        none
    else
      none
  else
    none
theorem laws_toIntS.ex : ∃ f : ((α : Type) → Nat → List Int → (List Int → Option α) → Option α), f = fun α => @laws_toIntS.b α := ⟨_, rfl⟩
noncomputable def laws_toIntS {α : Type} : Nat → List Int → (List Int → Option α) → Option α := Classical.choose laws_toIntS.ex α
theorem laws_toIntS.eq : @laws_toIntS = @laws_toIntS.b := funext fun α => congrFun (Classical.choose_spec laws_toIntS.ex) α

/-- loop.example/pinfold/laws.toFrac -/
noncomputable def laws_toFrac.b {α : Type} (N : Nat) (a71 : Bool × (List Int) × (List Int) × Unit) (k0 : Bool → List Int → List Int → Option α) : Option α :=
  laws_toIntS N a71.2.1
    (fun x85 =>
      laws_toIntS N a71.2.2.1
        (fun x86 =>
          k0 a71.1 x85 x86))
theorem laws_toFrac.ex : ∃ f : ((α : Type) → Nat → (Bool × (List Int) × (List Int) × Unit) → (Bool → List Int → List Int → Option α) → Option α), f = fun α => @laws_toFrac.b α := ⟨_, rfl⟩
noncomputable def laws_toFrac {α : Type} : Nat → (Bool × (List Int) × (List Int) × Unit) → (Bool → List Int → List Int → Option α) → Option α := Classical.choose laws_toFrac.ex α
theorem laws_toFrac.eq : @laws_toFrac = @laws_toFrac.b := funext fun α => congrFun (Classical.choose_spec laws_toFrac.ex) α

noncomputable def laws_toFracS_L0r {α : Type} (N : Nat) (next : List (Bool × (List Int) × (List Int) × Unit) → Int → List (Bool × (List Int) × (List Int) × Unit) → Option α) (k0 : List (Bool × (List Int) × (List Int) × Unit) → Option α) (v65 : List (Bool × (List Int) × (List Int) × Unit)) (v66 : Int) (v67 : List (Bool × (List Int) × (List Int) × Unit)) : Option α :=
  let x68 := ((v65.length : Nat) : Int)
  let x69 := decide (v66 < x68)
  bif x69 then
    bif (decide (v66 < (0 : Int))) then
      none
    else
      match v65[v66.toNat]? with
      | some x70 =>
        laws_toFrac N x70
          (fun x87 x88 x89 =>
            bif (decide (v66 < (0 : Int))) then
              none
            else
              bif decide (v66.toNat < v67.length) then
                match v67[v66.toNat]? with
                | some x90 =>
                  let x91 := v67.set v66.toNat (x87, (x88, (x89, ())))
                  let x92 := (IntKind.i64.wrap (v66 + (1 : Int)))
                  next v65 x92 x91
                | none => none
              else
                none)
      | none => none
  else
    k0 v67
noncomputable def laws_toFracS_L0.b {α : Type} (N n : Nat) (v65 : List (Bool × (List Int) × (List Int) × Unit)) (v66 : Int) (v67 : List (Bool × (List Int) × (List Int) × Unit)) (k0 : List (Bool × (List Int) × (List Int) × Unit) → Option α) : Option α :=
  Nat.rec (motive := fun _ => List (Bool × (List Int) × (List Int) × Unit) → Int → List (Bool × (List Int) × (List Int) × Unit) → Option α) (fun _ _ _ => none) (fun _ next => laws_toFracS_L0r N next k0) n v65 v66 v67
theorem laws_toFracS_L0.ex : ∃ f : ((α : Type) → Nat → Nat → List (Bool × (List Int) × (List Int) × Unit) → Int → List (Bool × (List Int) × (List Int) × Unit) → (List (Bool × (List Int) × (List Int) × Unit) → Option α) → Option α), f = fun α => @laws_toFracS_L0.b α := ⟨_, rfl⟩
noncomputable def laws_toFracS_L0 {α : Type} : Nat → Nat → List (Bool × (List Int) × (List Int) × Unit) → Int → List (Bool × (List Int) × (List Int) × Unit) → (List (Bool × (List Int) × (List Int) × Unit) → Option α) → Option α := Classical.choose laws_toFracS_L0.ex α
theorem laws_toFracS_L0.eq : @laws_toFracS_L0 = @laws_toFracS_L0.b := funext fun α => congrFun (Classical.choose_spec laws_toFracS_L0.ex) α
theorem laws_toFracS_L0.zero {α : Type} (N : Nat) (v65 : List (Bool × (List Int) × (List Int) × Unit)) (v66 : Int) (v67 : List (Bool × (List Int) × (List Int) × Unit)) (k0 : List (Bool × (List Int) × (List Int) × Unit) → Option α) : laws_toFracS_L0 N 0 v65 v66 v67 k0 = none := by rw [laws_toFracS_L0.eq]; rfl
theorem laws_toFracS_L0.succ {α : Type} (N n : Nat) (v65 : List (Bool × (List Int) × (List Int) × Unit)) (v66 : Int) (v67 : List (Bool × (List Int) × (List Int) × Unit)) (k0 : List (Bool × (List Int) × (List Int) × Unit) → Option α) : laws_toFracS_L0 N (n + 1) v65 v66 v67 k0 = laws_toFracS_L0r N (fun y0 y1 y2 => laws_toFracS_L0 N n y0 y1 y2 k0) k0 v65 v66 v67 := by rw [laws_toFracS_L0.eq]; rfl
/-- loop.example/pinfold/laws.toFracS -/
noncomputable def laws_toFracS.b {α : Type} (N : Nat) (a62 : List (Bool × (List Int) × (List Int) × Unit)) (k0 : List (Bool × (List Int) × (List Int) × Unit) → Option α) : Option α :=
  let x63 := ((a62.length : Nat) : Int)
  bif (decide ((0 : Int) ≤ x63)) then
    bif decide (x63 ≤ x63) then
      bif (decide (x63 ≤ ((2513169434916 : Nat) : Int))) then
        let x64 := List.replicate x63.toNat (false, ([], ([], ())))
        laws_toFracS_L0 N N a62 (0 : Int) x64
          (fun x93 =>
            k0 x93)
      else
        none
    else
      none
  else
    none
theorem laws_toFracS.ex : ∃ f : ((α : Type) → Nat → List (Bool × (List Int) × (List Int) × Unit) → (List (Bool × (List Int) × (List Int) × Unit) → Option α) → Option α), f = fun α => @laws_toFracS.b α := ⟨_, rfl⟩
noncomputable def laws_toFracS {α : Type} : Nat → List (Bool × (List Int) × (List Int) × Unit) → (List (Bool × (List Int) × (List Int) × Unit) → Option α) → Option α := Classical.choose laws_toFracS.ex α
theorem laws_toFracS.eq : @laws_toFracS = @laws_toFracS.b := funext fun α => congrFun (Classical.choose_spec laws_toFracS.ex) α

/-- loop.example/pinfold/spec.BitTop -/
noncomputable def spec_BitTop.b {α : Type} (N : Nat) (a112 : Int) (k0 : Int → Option α) : Option α :=
  let x113 := (decide (a112 = (32 : Int)))
  bif x113 then
    k0 (2139095040 : Int)
  else
    let x114 := (decide (a112 = (64 : Int)))
    bif x114 then
      k0 (9218868437227405312 : Int)
    else
      k0 (0 : Int)
theorem spec_BitTop.ex : ∃ f : ((α : Type) → Nat → Int → (Int → Option α) → Option α), f = fun α => @spec_BitTop.b α := ⟨_, rfl⟩
noncomputable def spec_BitTop {α : Type} : Nat → Int → (Int → Option α) → Option α := Classical.choose spec_BitTop.ex α
theorem spec_BitTop.eq : @spec_BitTop = @spec_BitTop.b := funext fun α => congrFun (Classical.choose_spec spec_BitTop.ex) α

/-- loop.example/pinfold/spec.l1Width -/
noncomputable def spec_l1Width.b {α : Type} (N : Nat) (a118 : Int) (k0 : Bool → Option α) : Option α :=
  let x119 := (decide (a118 = (32 : Int)))
  bif x119 then
    k0 true
  else
    let x120 := (decide (a118 = (64 : Int)))
    k0 x120
theorem spec_l1Width.ex : ∃ f : ((α : Type) → Nat → Int → (Bool → Option α) → Option α), f = fun α => @spec_l1Width.b α := ⟨_, rfl⟩
noncomputable def spec_l1Width {α : Type} : Nat → Int → (Bool → Option α) → Option α := Classical.choose spec_l1Width.ex α
theorem spec_l1Width.eq : @spec_l1Width = @spec_l1Width.b := funext fun α => congrFun (Classical.choose_spec spec_l1Width.ex) α

/-- loop.example/pinfold/spec.BitOk -/
noncomputable def spec_BitOk.b {α : Type} (N : Nat) (a116 : Int) (a117 : Int) (k0 : Bool → Option α) : Option α :=
  spec_l1Width N a116
    (fun x121 =>
      bif x121 then
        spec_BitTop N a116
          (fun x122 =>
            let x123 := IntKind.i64.wrap (0 - x122)
            let x124 := decide (x123 ≤ a117)
            bif x124 then
              spec_BitTop N a116
                (fun x125 =>
                  let x126 := decide (a117 ≤ x125)
                  k0 x126)
            else
              k0 false)
      else
        k0 false)
theorem spec_BitOk.ex : ∃ f : ((α : Type) → Nat → Int → Int → (Bool → Option α) → Option α), f = fun α => @spec_BitOk.b α := ⟨_, rfl⟩
noncomputable def spec_BitOk {α : Type} : Nat → Int → Int → (Bool → Option α) → Option α := Classical.choose spec_BitOk.ex α
theorem spec_BitOk.eq : @spec_BitOk = @spec_BitOk.b := funext fun α => congrFun (Classical.choose_spec spec_BitOk.ex) α

/-- loop.example/pinfold/spec.PairOk -/
noncomputable def spec_PairOk.b {α : Type} (N : Nat) (a110 : Int) (a111 : Int × Int × Unit) (k0 : Bool → Option α) : Option α :=
  spec_BitTop N a110
    (fun x115 =>
      spec_BitOk N a110 a111.1
        (fun x127 =>
          bif x127 then
            spec_BitOk N a110 a111.2.1
              (fun x128 =>
                bif x128 then
                  let x129 := decide (a111.1 ≤ a111.2.1)
                  bif x129 then
                    let x130 := decide (a111.1 < x115)
                    bif x130 then
                      let x131 := IntKind.i64.wrap (0 - x115)
                      let x132 := decide (x131 < a111.2.1)
                      k0 x132
                    else
                      k0 false
                  else
                    k0 false
                else
                  k0 false)
          else
            k0 false))
theorem spec_PairOk.ex : ∃ f : ((α : Type) → Nat → Int → (Int × Int × Unit) → (Bool → Option α) → Option α), f = fun α => @spec_PairOk.b α := ⟨_, rfl⟩
noncomputable def spec_PairOk {α : Type} : Nat → Int → (Int × Int × Unit) → (Bool → Option α) → Option α := Classical.choose spec_PairOk.ex α
theorem spec_PairOk.eq : @spec_PairOk = @spec_PairOk.b := funext fun α => congrFun (Classical.choose_spec spec_PairOk.ex) α

noncomputable def spec_BoxOk_L0r {α : Type} (N : Nat) (next : Int → Int → ((List (Int × Int × Unit)) × Unit) → Option α) (k0 : Bool → Option α) (k1 : Option α) (v104 : Int) (v105 : Int) (v106 : (List (Int × Int × Unit)) × Unit) : Option α :=
  let x107 := ((v106.1.length : Nat) : Int)
  let x108 := decide (v105 < x107)
  bif x108 then
    bif (decide (v105 < (0 : Int))) then
      none
    else
      match v106.1[v105.toNat]? with
      | some x109 =>
        spec_PairOk N v104 x109
          (fun x133 =>
            let x134 := !x133
            bif x134 then
              k0 false
            else
              let x135 := (IntKind.i64.wrap (v105 + (1 : Int)))
              next v104 x135 v106)
      | none => none
  else
    k1
noncomputable def spec_BoxOk_L0.b {α : Type} (N n : Nat) (v104 : Int) (v105 : Int) (v106 : (List (Int × Int × Unit)) × Unit) (k0 : Bool → Option α) (k1 : Option α) : Option α :=
  Nat.rec (motive := fun _ => Int → Int → ((List (Int × Int × Unit)) × Unit) → Option α) (fun _ _ _ => none) (fun _ next => spec_BoxOk_L0r N next k0 k1) n v104 v105 v106
theorem spec_BoxOk_L0.ex : ∃ f : ((α : Type) → Nat → Nat → Int → Int → ((List (Int × Int × Unit)) × Unit) → (Bool → Option α) → (Option α) → Option α), f = fun α => @spec_BoxOk_L0.b α := ⟨_, rfl⟩
noncomputable def spec_BoxOk_L0 {α : Type} : Nat → Nat → Int → Int → ((List (Int × Int × Unit)) × Unit) → (Bool → Option α) → (Option α) → Option α := Classical.choose spec_BoxOk_L0.ex α
theorem spec_BoxOk_L0.eq : @spec_BoxOk_L0 = @spec_BoxOk_L0.b := funext fun α => congrFun (Classical.choose_spec spec_BoxOk_L0.ex) α
theorem spec_BoxOk_L0.zero {α : Type} (N : Nat) (v104 : Int) (v105 : Int) (v106 : (List (Int × Int × Unit)) × Unit) (k0 : Bool → Option α) (k1 : Option α) : spec_BoxOk_L0 N 0 v104 v105 v106 k0 k1 = none := by rw [spec_BoxOk_L0.eq]; rfl
theorem spec_BoxOk_L0.succ {α : Type} (N n : Nat) (v104 : Int) (v105 : Int) (v106 : (List (Int × Int × Unit)) × Unit) (k0 : Bool → Option α) (k1 : Option α) : spec_BoxOk_L0 N (n + 1) v104 v105 v106 k0 k1 = spec_BoxOk_L0r N (fun y0 y1 y2 => spec_BoxOk_L0 N n y0 y1 y2 k0 k1) k0 k1 v104 v105 v106 := by rw [spec_BoxOk_L0.eq]; rfl
/-- loop.example/pinfold/spec.BoxOk -/
noncomputable def spec_BoxOk.b {α : Type} (N : Nat) (a98 : Int) (a99 : (List (Int × Int × Unit)) × Unit) (k0 : Bool → Option α) : Option α :=
  let x100 := ((a99.1.length : Nat) : Int)
  let x101 := (decide (x100 < (1 : Int)))
  bif x101 then
    k0 false
  else
    let x102 := ((a99.1.length : Nat) : Int)
    let x103 := (decide ((6 : Int) < x102))
    bif x103 then
      k0 false
    else
      spec_BoxOk_L0 N N a98 (0 : Int) a99
        (fun x136 =>
          k0 x136)
        (
          k0 true)
theorem spec_BoxOk.ex : ∃ f : ((α : Type) → Nat → Int → ((List (Int × Int × Unit)) × Unit) → (Bool → Option α) → Option α), f = fun α => @spec_BoxOk.b α := ⟨_, rfl⟩
noncomputable def spec_BoxOk {α : Type} : Nat → Int → ((List (Int × Int × Unit)) × Unit) → (Bool → Option α) → Option α := Classical.choose spec_BoxOk.ex α
theorem spec_BoxOk.eq : @spec_BoxOk = @spec_BoxOk.b := funext fun α => congrFun (Classical.choose_spec spec_BoxOk.ex) α

noncomputable def spec_NatOk_L0r {α : Type} (N : Nat) (next : List Int → Int → Option α) (k0 : Bool → Option α) (k1 : List Int → Option α) (v159 : List Int) (v160 : Int) : Option α :=
  let x161 := ((v159.length : Nat) : Int)
  let x162 := decide (v160 < x161)
  bif x162 then
    bif (decide (v160 < (0 : Int))) then
      none
    else
      match v159[v160.toNat]? with
      | some x163 =>
        let x164 := (decide (x163 < (0 : Int)))
        bif x164 then
          k0 false
        else
          bif (decide (v160 < (0 : Int))) then
            none
          else
            match v159[v160.toNat]? with
            | some x165 =>
              let x166 := (decide ((65536 : Int) ≤ x165))
              bif x166 then
                k0 false
              else
                let x167 := (IntKind.i64.wrap (v160 + (1 : Int)))
                next v159 x167
            | none => none
      | none => none
  else
    k1 v159
noncomputable def spec_NatOk_L0.b {α : Type} (N n : Nat) (v159 : List Int) (v160 : Int) (k0 : Bool → Option α) (k1 : List Int → Option α) : Option α :=
  Nat.rec (motive := fun _ => List Int → Int → Option α) (fun _ _ => none) (fun _ next => spec_NatOk_L0r N next k0 k1) n v159 v160
theorem spec_NatOk_L0.ex : ∃ f : ((α : Type) → Nat → Nat → List Int → Int → (Bool → Option α) → (List Int → Option α) → Option α), f = fun α => @spec_NatOk_L0.b α := ⟨_, rfl⟩
noncomputable def spec_NatOk_L0 {α : Type} : Nat → Nat → List Int → Int → (Bool → Option α) → (List Int → Option α) → Option α := Classical.choose spec_NatOk_L0.ex α
theorem spec_NatOk_L0.eq : @spec_NatOk_L0 = @spec_NatOk_L0.b := funext fun α => congrFun (Classical.choose_spec spec_NatOk_L0.ex) α
theorem spec_NatOk_L0.zero {α : Type} (N : Nat) (v159 : List Int) (v160 : Int) (k0 : Bool → Option α) (k1 : List Int → Option α) : spec_NatOk_L0 N 0 v159 v160 k0 k1 = none := by rw [spec_NatOk_L0.eq]; rfl
theorem spec_NatOk_L0.succ {α : Type} (N n : Nat) (v159 : List Int) (v160 : Int) (k0 : Bool → Option α) (k1 : List Int → Option α) : spec_NatOk_L0 N (n + 1) v159 v160 k0 k1 = spec_NatOk_L0r N (fun y0 y1 => spec_NatOk_L0 N n y0 y1 k0 k1) k0 k1 v159 v160 := by rw [spec_NatOk_L0.eq]; rfl
/-- loop.example/pinfold/spec.NatOk -/
noncomputable def spec_NatOk.b {α : Type} (N : Nat) (a156 : List Int) (k0 : Bool → Option α) : Option α :=
  let x157 := ((a156.length : Nat) : Int)
  let x158 := (decide ((256 : Int) < x157))
  bif x158 then
    k0 false
  else
    spec_NatOk_L0 N N a156 (0 : Int)
      (fun x168 =>
        k0 x168)
      (fun x169 =>
        let x170 := ((x169.length : Nat) : Int)
        let x171 := (decide (x170 = (0 : Int)))
        bif x171 then
          k0 true
        else
          let x172 := ((x169.length : Nat) : Int)
          let x173 := (IntKind.i64.wrap (x172 - (1 : Int)))
          bif (decide (x173 < (0 : Int))) then
            none
          else
            match x169[x173.toNat]? with
            | some x174 =>
              let x175 := (!(decide (x174 = (0 : Int))))
              k0 x175
            | none => none)
theorem spec_NatOk.ex : ∃ f : ((α : Type) → Nat → List Int → (Bool → Option α) → Option α), f = fun α => @spec_NatOk.b α := ⟨_, rfl⟩
noncomputable def spec_NatOk {α : Type} : Nat → List Int → (Bool → Option α) → Option α := Classical.choose spec_NatOk.ex α
theorem spec_NatOk.eq : @spec_NatOk = @spec_NatOk.b := funext fun α => congrFun (Classical.choose_spec spec_NatOk.ex) α

noncomputable def spec_l5Trim_L0r {α : Type} (N : Nat) (next : List Int → Int → Option α) (k0 : List Int → Int → Option α) (v188 : List Int) (v189 : Int) : Option α :=
  let x190 := (decide ((0 : Int) < v189))
  bif x190 then
    let x191 := (IntKind.i64.wrap (v189 - (1 : Int)))
    bif (decide (x191 < (0 : Int))) then
      none
    else
      match v188[x191.toNat]? with
      | some x192 =>
        let x193 := (decide (x192 = (0 : Int)))
        bif x193 then
          let x194 := (IntKind.i64.wrap (v189 - (1 : Int)))
          next v188 x194
        else
          k0 v188 v189
      | none => none
  else
    k0 v188 v189
noncomputable def spec_l5Trim_L0.b {α : Type} (N n : Nat) (v188 : List Int) (v189 : Int) (k0 : List Int → Int → Option α) : Option α :=
  Nat.rec (motive := fun _ => List Int → Int → Option α) (fun _ _ => none) (fun _ next => spec_l5Trim_L0r N next k0) n v188 v189
theorem spec_l5Trim_L0.ex : ∃ f : ((α : Type) → Nat → Nat → List Int → Int → (List Int → Int → Option α) → Option α), f = fun α => @spec_l5Trim_L0.b α := ⟨_, rfl⟩
noncomputable def spec_l5Trim_L0 {α : Type} : Nat → Nat → List Int → Int → (List Int → Int → Option α) → Option α := Classical.choose spec_l5Trim_L0.ex α
theorem spec_l5Trim_L0.eq : @spec_l5Trim_L0 = @spec_l5Trim_L0.b := funext fun α => congrFun (Classical.choose_spec spec_l5Trim_L0.ex) α
theorem spec_l5Trim_L0.zero {α : Type} (N : Nat) (v188 : List Int) (v189 : Int) (k0 : List Int → Int → Option α) : spec_l5Trim_L0 N 0 v188 v189 k0 = none := by rw [spec_l5Trim_L0.eq]; rfl
theorem spec_l5Trim_L0.succ {α : Type} (N n : Nat) (v188 : List Int) (v189 : Int) (k0 : List Int → Int → Option α) : spec_l5Trim_L0 N (n + 1) v188 v189 k0 = spec_l5Trim_L0r N (fun y0 y1 => spec_l5Trim_L0 N n y0 y1 k0) k0 v188 v189 := by rw [spec_l5Trim_L0.eq]; rfl
noncomputable def spec_l5Trim_L2r {α : Type} (N : Nat) (next : List Int → Int → Int → List Int → Option α) (k0 : List Int → Option α) (v197 : List Int) (v198 : Int) (v199 : Int) (v200 : List Int) : Option α :=
  let x201 := decide (v199 < v198)
  bif x201 then
    bif (decide (v199 < (0 : Int))) then
      none
    else
      match v197[v199.toNat]? with
      | some x202 =>
        let x203 := [x202]
        bif decide (v200.length + x203.length ≤ 8796093022208) then
          let x204 := v200 ++ x203
          let x205 := (IntKind.i64.wrap (v199 + (1 : Int)))
          next v197 v198 x205 x204
        else
          none
      | none => none
  else
    k0 v200
noncomputable def spec_l5Trim_L2.b {α : Type} (N n : Nat) (v197 : List Int) (v198 : Int) (v199 : Int) (v200 : List Int) (k0 : List Int → Option α) : Option α :=
  Nat.rec (motive := fun _ => List Int → Int → Int → List Int → Option α) (fun _ _ _ _ => none) (fun _ next => spec_l5Trim_L2r N next k0) n v197 v198 v199 v200
theorem spec_l5Trim_L2.ex : ∃ f : ((α : Type) → Nat → Nat → List Int → Int → Int → List Int → (List Int → Option α) → Option α), f = fun α => @spec_l5Trim_L2.b α := ⟨_, rfl⟩
noncomputable def spec_l5Trim_L2 {α : Type} : Nat → Nat → List Int → Int → Int → List Int → (List Int → Option α) → Option α := Classical.choose spec_l5Trim_L2.ex α
theorem spec_l5Trim_L2.eq : @spec_l5Trim_L2 = @spec_l5Trim_L2.b := funext fun α => congrFun (Classical.choose_spec spec_l5Trim_L2.ex) α
theorem spec_l5Trim_L2.zero {α : Type} (N : Nat) (v197 : List Int) (v198 : Int) (v199 : Int) (v200 : List Int) (k0 : List Int → Option α) : spec_l5Trim_L2 N 0 v197 v198 v199 v200 k0 = none := by rw [spec_l5Trim_L2.eq]; rfl
theorem spec_l5Trim_L2.succ {α : Type} (N n : Nat) (v197 : List Int) (v198 : Int) (v199 : Int) (v200 : List Int) (k0 : List Int → Option α) : spec_l5Trim_L2 N (n + 1) v197 v198 v199 v200 k0 = spec_l5Trim_L2r N (fun y0 y1 y2 y3 => spec_l5Trim_L2 N n y0 y1 y2 y3 k0) k0 v197 v198 v199 v200 := by rw [spec_l5Trim_L2.eq]; rfl
/-- loop.example/pinfold/spec.l5Trim -/
noncomputable def spec_l5Trim.b {α : Type} (N : Nat) (a186 : List Int) (k0 : List Int → Option α) : Option α :=
  let x187 := ((a186.length : Nat) : Int)
  spec_l5Trim_L0 N N a186 x187
    (fun x195 x196 =>
      spec_l5Trim_L2 N N x195 x196 (0 : Int) []
        (fun x206 =>
          k0 x206))
theorem spec_l5Trim.ex : ∃ f : ((α : Type) → Nat → List Int → (List Int → Option α) → Option α), f = fun α => @spec_l5Trim.b α := ⟨_, rfl⟩
noncomputable def spec_l5Trim {α : Type} : Nat → List Int → (List Int → Option α) → Option α := Classical.choose spec_l5Trim.ex α
theorem spec_l5Trim.eq : @spec_l5Trim = @spec_l5Trim.b := funext fun α => congrFun (Classical.choose_spec spec_l5Trim.ex) α

noncomputable def spec_l5Cmp_L0r {α : Type} (N : Nat) (next : List Int → List Int → Int → Option α) (k0 : Int → Option α) (k1 : Option α) (v225 : List Int) (v226 : List Int) (v227 : Int) : Option α :=
  let x228 := (decide ((0 : Int) ≤ v227))
  bif x228 then
    bif (decide (v227 < (0 : Int))) then
      none
    else
      match v225[v227.toNat]? with
      | some x229 =>
        bif (decide (v227 < (0 : Int))) then
          none
        else
          match v226[v227.toNat]? with
          | some x230 =>
            let x231 := decide (x229 < x230)
            bif x231 then
              k0 (-1 : Int)
            else
              bif (decide (v227 < (0 : Int))) then
                none
              else
                match v225[v227.toNat]? with
                | some x232 =>
                  bif (decide (v227 < (0 : Int))) then
                    none
                  else
                    match v226[v227.toNat]? with
                    | some x233 =>
                      let x234 := decide (x233 < x232)
                      bif x234 then
                        k0 (1 : Int)
                      else
                        let x235 := (IntKind.i64.wrap (v227 - (1 : Int)))
                        next v225 v226 x235
                    | none => none
                | none => none
          | none => none
      | none => none
  else
    k1
noncomputable def spec_l5Cmp_L0.b {α : Type} (N n : Nat) (v225 : List Int) (v226 : List Int) (v227 : Int) (k0 : Int → Option α) (k1 : Option α) : Option α :=
  Nat.rec (motive := fun _ => List Int → List Int → Int → Option α) (fun _ _ _ => none) (fun _ next => spec_l5Cmp_L0r N next k0 k1) n v225 v226 v227
theorem spec_l5Cmp_L0.ex : ∃ f : ((α : Type) → Nat → Nat → List Int → List Int → Int → (Int → Option α) → (Option α) → Option α), f = fun α => @spec_l5Cmp_L0.b α := ⟨_, rfl⟩
noncomputable def spec_l5Cmp_L0 {α : Type} : Nat → Nat → List Int → List Int → Int → (Int → Option α) → (Option α) → Option α := Classical.choose spec_l5Cmp_L0.ex α
theorem spec_l5Cmp_L0.eq : @spec_l5Cmp_L0 = @spec_l5Cmp_L0.b := funext fun α => congrFun (Classical.choose_spec spec_l5Cmp_L0.ex) α
theorem spec_l5Cmp_L0.zero {α : Type} (N : Nat) (v225 : List Int) (v226 : List Int) (v227 : Int) (k0 : Int → Option α) (k1 : Option α) : spec_l5Cmp_L0 N 0 v225 v226 v227 k0 k1 = none := by rw [spec_l5Cmp_L0.eq]; rfl
theorem spec_l5Cmp_L0.succ {α : Type} (N n : Nat) (v225 : List Int) (v226 : List Int) (v227 : Int) (k0 : Int → Option α) (k1 : Option α) : spec_l5Cmp_L0 N (n + 1) v225 v226 v227 k0 k1 = spec_l5Cmp_L0r N (fun y0 y1 y2 => spec_l5Cmp_L0 N n y0 y1 y2 k0 k1) k0 k1 v225 v226 v227 := by rw [spec_l5Cmp_L0.eq]; rfl
/-- loop.example/pinfold/spec.l5Cmp -/
noncomputable def spec_l5Cmp.b {α : Type} (N : Nat) (a215 : List Int) (a216 : List Int) (k0 : Int → Option α) : Option α :=
  let x217 := ((a215.length : Nat) : Int)
  let x218 := ((a216.length : Nat) : Int)
  let x219 := decide (x217 < x218)
  bif x219 then
    k0 (-1 : Int)
  else
    let x220 := ((a215.length : Nat) : Int)
    let x221 := ((a216.length : Nat) : Int)
    let x222 := decide (x221 < x220)
    bif x222 then
      k0 (1 : Int)
    else
      let x223 := ((a215.length : Nat) : Int)
      let x224 := (IntKind.i64.wrap (x223 - (1 : Int)))
      spec_l5Cmp_L0 N N a215 a216 x224
        (fun x236 =>
          k0 x236)
        (
          k0 (0 : Int))
theorem spec_l5Cmp.ex : ∃ f : ((α : Type) → Nat → List Int → List Int → (Int → Option α) → Option α), f = fun α => @spec_l5Cmp.b α := ⟨_, rfl⟩
noncomputable def spec_l5Cmp {α : Type} : Nat → List Int → List Int → (Int → Option α) → Option α := Classical.choose spec_l5Cmp.ex α
theorem spec_l5Cmp.eq : @spec_l5Cmp = @spec_l5Cmp.b := funext fun α => congrFun (Classical.choose_spec spec_l5Cmp.ex) α

noncomputable def spec_l5DivSmall_L0r {α : Type} (N : Nat) (next : List Int → Int → Int → Int → List Int → Option α) (k0 : Int → List Int → Option α) (v249 : List Int) (v250 : Int) (v251 : Int) (v252 : Int) (v253 : List Int) : Option α :=
  let x254 := (decide ((0 : Int) ≤ v252))
  bif x254 then
    let x255 := (IntKind.i64.wrap (v251 * (65536 : Int)))
    bif (decide (v252 < (0 : Int))) then
      none
    else
      match v249[v252.toNat]? with
      | some x256 =>
        let x257 := IntKind.i64.wrap (x255 + x256)
        bif (decide (v250 = (0 : Int))) then
          none
        else
          let x258 := IntKind.i64.wrap (Int.tdiv x257 v250)
          bif (decide (v252 < (0 : Int))) then
            none
          else
            bif decide (v252.toNat < v253.length) then
              match v253[v252.toNat]? with
              | some x259 =>
                let x260 := v253.set v252.toNat x258
                bif (decide (v250 = (0 : Int))) then
                  none
                else
                  let x261 := Int.tmod x257 v250
                  let x262 := (IntKind.i64.wrap (v252 - (1 : Int)))
                  next v249 v250 x261 x262 x260
              | none => none
            else
              none
      | none => none
  else
    k0 v251 v253
noncomputable def spec_l5DivSmall_L0.b {α : Type} (N n : Nat) (v249 : List Int) (v250 : Int) (v251 : Int) (v252 : Int) (v253 : List Int) (k0 : Int → List Int → Option α) : Option α :=
  Nat.rec (motive := fun _ => List Int → Int → Int → Int → List Int → Option α) (fun _ _ _ _ _ => none) (fun _ next => spec_l5DivSmall_L0r N next k0) n v249 v250 v251 v252 v253
theorem spec_l5DivSmall_L0.ex : ∃ f : ((α : Type) → Nat → Nat → List Int → Int → Int → Int → List Int → (Int → List Int → Option α) → Option α), f = fun α => @spec_l5DivSmall_L0.b α := ⟨_, rfl⟩
noncomputable def spec_l5DivSmall_L0 {α : Type} : Nat → Nat → List Int → Int → Int → Int → List Int → (Int → List Int → Option α) → Option α := Classical.choose spec_l5DivSmall_L0.ex α
theorem spec_l5DivSmall_L0.eq : @spec_l5DivSmall_L0 = @spec_l5DivSmall_L0.b := funext fun α => congrFun (Classical.choose_spec spec_l5DivSmall_L0.ex) α
theorem spec_l5DivSmall_L0.zero {α : Type} (N : Nat) (v249 : List Int) (v250 : Int) (v251 : Int) (v252 : Int) (v253 : List Int) (k0 : Int → List Int → Option α) : spec_l5DivSmall_L0 N 0 v249 v250 v251 v252 v253 k0 = none := by rw [spec_l5DivSmall_L0.eq]; rfl
theorem spec_l5DivSmall_L0.succ {α : Type} (N n : Nat) (v249 : List Int) (v250 : Int) (v251 : Int) (v252 : Int) (v253 : List Int) (k0 : Int → List Int → Option α) : spec_l5DivSmall_L0 N (n + 1) v249 v250 v251 v252 v253 k0 = spec_l5DivSmall_L0r N (fun y0 y1 y2 y3 y4 => spec_l5DivSmall_L0 N n y0 y1 y2 y3 y4 k0) k0 v249 v250 v251 v252 v253 := by rw [spec_l5DivSmall_L0.eq]; rfl
/-- loop.example/pinfold/spec.l5DivSmall -/
noncomputable def spec_l5DivSmall.b {α : Type} (N : Nat) (a243 : List Int) (a244 : Int) (k0 : Int → List Int → Option α) : Option α :=
  let x245 := ((a243.length : Nat) : Int)
  bif (decide ((0 : Int) ≤ x245)) then
    bif decide (x245 ≤ x245) then
      bif (decide (x245 ≤ ((8796093022208 : Nat) : Int))) then
        let x246 := (List.replicate x245.toNat (0 : Int))
        let x247 := ((a243.length : Nat) : Int)
        let x248 := (IntKind.i64.wrap (x247 - (1 : Int)))
        spec_l5DivSmall_L0 N N a243 a244 (0 : Int) x248 x246
          (fun x263 x264 =>
            spec_l5Trim N x264
              (fun x265 =>
                k0 x263 x265))
      else
        none
    else
      none
  else
    none
theorem spec_l5DivSmall.ex : ∃ f : ((α : Type) → Nat → List Int → Int → (Int → List Int → Option α) → Option α), f = fun α => @spec_l5DivSmall.b α := ⟨_, rfl⟩
noncomputable def spec_l5DivSmall {α : Type} : Nat → List Int → Int → (Int → List Int → Option α) → Option α := Classical.choose spec_l5DivSmall.ex α
theorem spec_l5DivSmall.eq : @spec_l5DivSmall = @spec_l5DivSmall.b := funext fun α => congrFun (Classical.choose_spec spec_l5DivSmall.ex) α

noncomputable def spec_NatOf_L0r {α : Type} (N : Nat) (next : Int → List Int → Option α) (k0 : List Int → Option α) (v270 : Int) (v271 : List Int) : Option α :=
  let x272 := (decide ((0 : Int) < v270))
  bif x272 then
    let x273 := (Int.tmod v270 (65536 : Int))
    let x274 := IntKind.i64.wrap x273
    let x275 := [x274]
    bif decide (v271.length + x275.length ≤ 8796093022208) then
      let x276 := v271 ++ x275
      let x277 := (IntKind.u64.wrap (Int.tdiv v270 (65536 : Int)))
      next x277 x276
    else
      none
  else
    k0 v271
noncomputable def spec_NatOf_L0.b {α : Type} (N n : Nat) (v270 : Int) (v271 : List Int) (k0 : List Int → Option α) : Option α :=
  Nat.rec (motive := fun _ => Int → List Int → Option α) (fun _ _ => none) (fun _ next => spec_NatOf_L0r N next k0) n v270 v271
theorem spec_NatOf_L0.ex : ∃ f : ((α : Type) → Nat → Nat → Int → List Int → (List Int → Option α) → Option α), f = fun α => @spec_NatOf_L0.b α := ⟨_, rfl⟩
noncomputable def spec_NatOf_L0 {α : Type} : Nat → Nat → Int → List Int → (List Int → Option α) → Option α := Classical.choose spec_NatOf_L0.ex α
theorem spec_NatOf_L0.eq : @spec_NatOf_L0 = @spec_NatOf_L0.b := funext fun α => congrFun (Classical.choose_spec spec_NatOf_L0.ex) α
theorem spec_NatOf_L0.zero {α : Type} (N : Nat) (v270 : Int) (v271 : List Int) (k0 : List Int → Option α) : spec_NatOf_L0 N 0 v270 v271 k0 = none := by rw [spec_NatOf_L0.eq]; rfl
theorem spec_NatOf_L0.succ {α : Type} (N n : Nat) (v270 : Int) (v271 : List Int) (k0 : List Int → Option α) : spec_NatOf_L0 N (n + 1) v270 v271 k0 = spec_NatOf_L0r N (fun y0 y1 => spec_NatOf_L0 N n y0 y1 k0) k0 v270 v271 := by rw [spec_NatOf_L0.eq]; rfl
/-- loop.example/pinfold/spec.NatOf -/
noncomputable def spec_NatOf.b {α : Type} (N : Nat) (a269 : Int) (k0 : List Int → Option α) : Option α :=
  spec_NatOf_L0 N N a269 []
    (fun x278 =>
      k0 x278)
theorem spec_NatOf.ex : ∃ f : ((α : Type) → Nat → Int → (List Int → Option α) → Option α), f = fun α => @spec_NatOf.b α := ⟨_, rfl⟩
noncomputable def spec_NatOf {α : Type} : Nat → Int → (List Int → Option α) → Option α := Classical.choose spec_NatOf.ex α
theorem spec_NatOf.eq : @spec_NatOf = @spec_NatOf.b := funext fun α => congrFun (Classical.choose_spec spec_NatOf.ex) α

noncomputable def spec_l5Mul_L2r {α : Type} (N : Nat) (next : List Int → List Int → Int → Int → Int → List Int → Option α) (k0 : List Int → List Int → Int → Int → List Int → Option α) (v301 : List Int) (v302 : List Int) (v303 : Int) (v304 : Int) (v305 : Int) (v306 : List Int) : Option α :=
  let x307 := ((v302.length : Nat) : Int)
  let x308 := decide (v305 < x307)
  bif x308 then
    let x309 := IntKind.i64.wrap (v303 + v305)
    bif (decide (x309 < (0 : Int))) then
      none
    else
      bif decide (x309.toNat < v306.length) then
        match v306[x309.toNat]? with
        | some x310 =>
          bif (decide (v303 < (0 : Int))) then
            none
          else
            match v301[v303.toNat]? with
            | some x311 =>
              bif (decide (v305 < (0 : Int))) then
                none
              else
                match v302[v305.toNat]? with
                | some x312 =>
                  let x313 := IntKind.i64.wrap (x311 * x312)
                  let x314 := IntKind.i64.wrap (x310 + x313)
                  let x315 := IntKind.i64.wrap (x314 + v304)
                  let x316 := IntKind.i64.wrap (v303 + v305)
                  let x317 := (Int.tmod x315 (65536 : Int))
                  bif (decide (x316 < (0 : Int))) then
                    none
                  else
                    bif decide (x316.toNat < v306.length) then
                      match v306[x316.toNat]? with
                      | some x318 =>
                        let x319 := v306.set x316.toNat x317
                        let x320 := (IntKind.i64.wrap (Int.tdiv x315 (65536 : Int)))
                        let x321 := (IntKind.i64.wrap (v305 + (1 : Int)))
                        next v301 v302 v303 x320 x321 x319
                      | none => none
                    else
                      none
                | none => none
            | none => none
        | none => none
      else
        none
  else
    k0 v301 v302 v303 v304 v306
noncomputable def spec_l5Mul_L2.b {α : Type} (N n : Nat) (v301 : List Int) (v302 : List Int) (v303 : Int) (v304 : Int) (v305 : Int) (v306 : List Int) (k0 : List Int → List Int → Int → Int → List Int → Option α) : Option α :=
  Nat.rec (motive := fun _ => List Int → List Int → Int → Int → Int → List Int → Option α) (fun _ _ _ _ _ _ => none) (fun _ next => spec_l5Mul_L2r N next k0) n v301 v302 v303 v304 v305 v306
theorem spec_l5Mul_L2.ex : ∃ f : ((α : Type) → Nat → Nat → List Int → List Int → Int → Int → Int → List Int → (List Int → List Int → Int → Int → List Int → Option α) → Option α), f = fun α => @spec_l5Mul_L2.b α := ⟨_, rfl⟩
noncomputable def spec_l5Mul_L2 {α : Type} : Nat → Nat → List Int → List Int → Int → Int → Int → List Int → (List Int → List Int → Int → Int → List Int → Option α) → Option α := Classical.choose spec_l5Mul_L2.ex α
theorem spec_l5Mul_L2.eq : @spec_l5Mul_L2 = @spec_l5Mul_L2.b := funext fun α => congrFun (Classical.choose_spec spec_l5Mul_L2.ex) α
theorem spec_l5Mul_L2.zero {α : Type} (N : Nat) (v301 : List Int) (v302 : List Int) (v303 : Int) (v304 : Int) (v305 : Int) (v306 : List Int) (k0 : List Int → List Int → Int → Int → List Int → Option α) : spec_l5Mul_L2 N 0 v301 v302 v303 v304 v305 v306 k0 = none := by rw [spec_l5Mul_L2.eq]; rfl
theorem spec_l5Mul_L2.succ {α : Type} (N n : Nat) (v301 : List Int) (v302 : List Int) (v303 : Int) (v304 : Int) (v305 : Int) (v306 : List Int) (k0 : List Int → List Int → Int → Int → List Int → Option α) : spec_l5Mul_L2 N (n + 1) v301 v302 v303 v304 v305 v306 k0 = spec_l5Mul_L2r N (fun y0 y1 y2 y3 y4 y5 => spec_l5Mul_L2 N n y0 y1 y2 y3 y4 y5 k0) k0 v301 v302 v303 v304 v305 v306 := by rw [spec_l5Mul_L2.eq]; rfl
noncomputable def spec_l5Mul_L0r {α : Type} (N : Nat) (next : List Int → List Int → Int → List Int → Option α) (k0 : List Int → Option α) (v295 : List Int) (v296 : List Int) (v297 : Int) (v298 : List Int) : Option α :=
  let x299 := ((v295.length : Nat) : Int)
  let x300 := decide (v297 < x299)
  bif x300 then
    spec_l5Mul_L2 N N v295 v296 v297 (0 : Int) (0 : Int) v298
      (fun x322 x323 x324 x325 x326 =>
        let x327 := ((x323.length : Nat) : Int)
        let x328 := IntKind.i64.wrap (x324 + x327)
        bif (decide (x328 < (0 : Int))) then
          none
        else
          bif decide (x328.toNat < x326.length) then
            match x326[x328.toNat]? with
            | some x329 =>
              let x330 := x326.set x328.toNat x325
              let x331 := (IntKind.i64.wrap (x324 + (1 : Int)))
              next x322 x323 x331 x330
            | none => none
          else
            none)
  else
    k0 v298
noncomputable def spec_l5Mul_L0.b {α : Type} (N n : Nat) (v295 : List Int) (v296 : List Int) (v297 : Int) (v298 : List Int) (k0 : List Int → Option α) : Option α :=
  Nat.rec (motive := fun _ => List Int → List Int → Int → List Int → Option α) (fun _ _ _ _ => none) (fun _ next => spec_l5Mul_L0r N next k0) n v295 v296 v297 v298
theorem spec_l5Mul_L0.ex : ∃ f : ((α : Type) → Nat → Nat → List Int → List Int → Int → List Int → (List Int → Option α) → Option α), f = fun α => @spec_l5Mul_L0.b α := ⟨_, rfl⟩
noncomputable def spec_l5Mul_L0 {α : Type} : Nat → Nat → List Int → List Int → Int → List Int → (List Int → Option α) → Option α := Classical.choose spec_l5Mul_L0.ex α
theorem spec_l5Mul_L0.eq : @spec_l5Mul_L0 = @spec_l5Mul_L0.b := funext fun α => congrFun (Classical.choose_spec spec_l5Mul_L0.ex) α
theorem spec_l5Mul_L0.zero {α : Type} (N : Nat) (v295 : List Int) (v296 : List Int) (v297 : Int) (v298 : List Int) (k0 : List Int → Option α) : spec_l5Mul_L0 N 0 v295 v296 v297 v298 k0 = none := by rw [spec_l5Mul_L0.eq]; rfl
theorem spec_l5Mul_L0.succ {α : Type} (N n : Nat) (v295 : List Int) (v296 : List Int) (v297 : Int) (v298 : List Int) (k0 : List Int → Option α) : spec_l5Mul_L0 N (n + 1) v295 v296 v297 v298 k0 = spec_l5Mul_L0r N (fun y0 y1 y2 y3 => spec_l5Mul_L0 N n y0 y1 y2 y3 k0) k0 v295 v296 v297 v298 := by rw [spec_l5Mul_L0.eq]; rfl
/-- loop.example/pinfold/spec.l5Mul -/
noncomputable def spec_l5Mul.b {α : Type} (N : Nat) (a289 : List Int) (a290 : List Int) (k0 : List Int → Option α) : Option α :=
  let x291 := ((a289.length : Nat) : Int)
  let x292 := ((a290.length : Nat) : Int)
  let x293 := IntKind.i64.wrap (x291 + x292)
  bif (decide ((0 : Int) ≤ x293)) then
    bif decide (x293 ≤ x293) then
      bif (decide (x293 ≤ ((8796093022208 : Nat) : Int))) then
        let x294 := (List.replicate x293.toNat (0 : Int))
        spec_l5Mul_L0 N N a289 a290 (0 : Int) x294
          (fun x332 =>
            spec_l5Trim N x332
              (fun x333 =>
                k0 x333))
      else
        none
    else
      none
  else
    none
theorem spec_l5Mul.ex : ∃ f : ((α : Type) → Nat → List Int → List Int → (List Int → Option α) → Option α), f = fun α => @spec_l5Mul.b α := ⟨_, rfl⟩
noncomputable def spec_l5Mul {α : Type} : Nat → List Int → List Int → (List Int → Option α) → Option α := Classical.choose spec_l5Mul.ex α
theorem spec_l5Mul.eq : @spec_l5Mul = @spec_l5Mul.b := funext fun α => congrFun (Classical.choose_spec spec_l5Mul.ex) α

/-- loop.example/pinfold/spec.l5Times -/
noncomputable def spec_l5Times.b {α : Type} (N : Nat) (a285 : List Int) (a286 : Int) (k0 : List Int → Option α) : Option α :=
  let x287 := (decide (a286 = (0 : Int)))
  bif x287 then
    k0 []
  else
    let x288 := [a286]
    spec_l5Mul N a285 x288
      (fun x334 =>
        k0 x334)
theorem spec_l5Times.ex : ∃ f : ((α : Type) → Nat → List Int → Int → (List Int → Option α) → Option α), f = fun α => @spec_l5Times.b α := ⟨_, rfl⟩
noncomputable def spec_l5Times {α : Type} : Nat → List Int → Int → (List Int → Option α) → Option α := Classical.choose spec_l5Times.ex α
theorem spec_l5Times.eq : @spec_l5Times = @spec_l5Times.b := funext fun α => congrFun (Classical.choose_spec spec_l5Times.ex) α

noncomputable def spec_l5Top_L0r {α : Type} (N : Nat) (next : List Int → Int → List Int → Option α) (k0 : List Int → Option α) (v347 : List Int) (v348 : Int) (v349 : List Int) : Option α :=
  let x350 := ((v347.length : Nat) : Int)
  let x351 := decide (v348 < x350)
  bif x351 then
    bif (decide (v348 < (0 : Int))) then
      none
    else
      match v347[v348.toNat]? with
      | some x352 =>
        let x353 := [x352]
        bif decide (v349.length + x353.length ≤ 8796093022208) then
          let x354 := v349 ++ x353
          let x355 := (IntKind.i64.wrap (v348 + (1 : Int)))
          next v347 x355 x354
        else
          none
      | none => none
  else
    k0 v349
noncomputable def spec_l5Top_L0.b {α : Type} (N n : Nat) (v347 : List Int) (v348 : Int) (v349 : List Int) (k0 : List Int → Option α) : Option α :=
  Nat.rec (motive := fun _ => List Int → Int → List Int → Option α) (fun _ _ _ => none) (fun _ next => spec_l5Top_L0r N next k0) n v347 v348 v349
theorem spec_l5Top_L0.ex : ∃ f : ((α : Type) → Nat → Nat → List Int → Int → List Int → (List Int → Option α) → Option α), f = fun α => @spec_l5Top_L0.b α := ⟨_, rfl⟩
noncomputable def spec_l5Top_L0 {α : Type} : Nat → Nat → List Int → Int → List Int → (List Int → Option α) → Option α := Classical.choose spec_l5Top_L0.ex α
theorem spec_l5Top_L0.eq : @spec_l5Top_L0 = @spec_l5Top_L0.b := funext fun α => congrFun (Classical.choose_spec spec_l5Top_L0.ex) α
theorem spec_l5Top_L0.zero {α : Type} (N : Nat) (v347 : List Int) (v348 : Int) (v349 : List Int) (k0 : List Int → Option α) : spec_l5Top_L0 N 0 v347 v348 v349 k0 = none := by rw [spec_l5Top_L0.eq]; rfl
theorem spec_l5Top_L0.succ {α : Type} (N n : Nat) (v347 : List Int) (v348 : Int) (v349 : List Int) (k0 : List Int → Option α) : spec_l5Top_L0 N (n + 1) v347 v348 v349 k0 = spec_l5Top_L0r N (fun y0 y1 y2 => spec_l5Top_L0 N n y0 y1 y2 k0) k0 v347 v348 v349 := by rw [spec_l5Top_L0.eq]; rfl
/-- loop.example/pinfold/spec.l5Top -/
noncomputable def spec_l5Top.b {α : Type} (N : Nat) (a345 : List Int) (a346 : Int) (k0 : List Int → Option α) : Option α :=
  spec_l5Top_L0 N N a345 a346 []
    (fun x356 =>
      k0 x356)
theorem spec_l5Top.ex : ∃ f : ((α : Type) → Nat → List Int → Int → (List Int → Option α) → Option α), f = fun α => @spec_l5Top.b α := ⟨_, rfl⟩
noncomputable def spec_l5Top {α : Type} : Nat → List Int → Int → (List Int → Option α) → Option α := Classical.choose spec_l5Top.ex α
theorem spec_l5Top.eq : @spec_l5Top = @spec_l5Top.b := funext fun α => congrFun (Classical.choose_spec spec_l5Top.ex) α

noncomputable def spec_l5Shl_L0r {α : Type} (N : Nat) (next : List Int → Int → List Int → Option α) (k0 : List Int → Option α) (v373 : List Int) (v374 : Int) (v375 : List Int) : Option α :=
  let x376 := ((v373.length : Nat) : Int)
  let x377 := decide (v374 < x376)
  bif x377 then
    bif (decide (v374 < (0 : Int))) then
      none
    else
      match v373[v374.toNat]? with
      | some x378 =>
        let x379 := [x378]
        bif decide (v375.length + x379.length ≤ 8796093022208) then
          let x380 := v375 ++ x379
          let x381 := (IntKind.i64.wrap (v374 + (1 : Int)))
          next v373 x381 x380
        else
          none
      | none => none
  else
    k0 v375
noncomputable def spec_l5Shl_L0.b {α : Type} (N n : Nat) (v373 : List Int) (v374 : Int) (v375 : List Int) (k0 : List Int → Option α) : Option α :=
  Nat.rec (motive := fun _ => List Int → Int → List Int → Option α) (fun _ _ _ => none) (fun _ next => spec_l5Shl_L0r N next k0) n v373 v374 v375
theorem spec_l5Shl_L0.ex : ∃ f : ((α : Type) → Nat → Nat → List Int → Int → List Int → (List Int → Option α) → Option α), f = fun α => @spec_l5Shl_L0.b α := ⟨_, rfl⟩
noncomputable def spec_l5Shl_L0 {α : Type} : Nat → Nat → List Int → Int → List Int → (List Int → Option α) → Option α := Classical.choose spec_l5Shl_L0.ex α
theorem spec_l5Shl_L0.eq : @spec_l5Shl_L0 = @spec_l5Shl_L0.b := funext fun α => congrFun (Classical.choose_spec spec_l5Shl_L0.ex) α
theorem spec_l5Shl_L0.zero {α : Type} (N : Nat) (v373 : List Int) (v374 : Int) (v375 : List Int) (k0 : List Int → Option α) : spec_l5Shl_L0 N 0 v373 v374 v375 k0 = none := by rw [spec_l5Shl_L0.eq]; rfl
theorem spec_l5Shl_L0.succ {α : Type} (N n : Nat) (v373 : List Int) (v374 : Int) (v375 : List Int) (k0 : List Int → Option α) : spec_l5Shl_L0 N (n + 1) v373 v374 v375 k0 = spec_l5Shl_L0r N (fun y0 y1 y2 => spec_l5Shl_L0 N n y0 y1 y2 k0) k0 v373 v374 v375 := by rw [spec_l5Shl_L0.eq]; rfl
/-- loop.example/pinfold/spec.l5Shl -/
noncomputable def spec_l5Shl.b {α : Type} (N : Nat) (a368 : List Int) (a369 : Int) (k0 : List Int → Option α) : Option α :=
  let x370 := ((a368.length : Nat) : Int)
  let x371 := (decide (x370 = (0 : Int)))
  bif x371 then
    k0 []
  else
    bif (decide ((0 : Int) ≤ a369)) then
      bif decide (a369 ≤ a369) then
        bif (decide (a369 ≤ ((8796093022208 : Nat) : Int))) then
          let x372 := (List.replicate a369.toNat (0 : Int))
          spec_l5Shl_L0 N N a368 (0 : Int) x372
            (fun x382 =>
              k0 x382)
        else
          none
      else
        none
    else
      none
theorem spec_l5Shl.ex : ∃ f : ((α : Type) → Nat → List Int → Int → (List Int → Option α) → Option α), f = fun α => @spec_l5Shl.b α := ⟨_, rfl⟩
noncomputable def spec_l5Shl {α : Type} : Nat → List Int → Int → (List Int → Option α) → Option α := Classical.choose spec_l5Shl.ex α
theorem spec_l5Shl.eq : @spec_l5Shl = @spec_l5Shl.b := funext fun α => congrFun (Classical.choose_spec spec_l5Shl.ex) α

/-- loop.example/pinfold/spec.l5At -/
noncomputable def spec_l5At.b {α : Type} (N : Nat) (a406 : List Int) (a407 : Int) (k0 : Int → Option α) : Option α :=
  let x408 := ((a406.length : Nat) : Int)
  let x409 := decide (a407 < x408)
  bif x409 then
    bif (decide (a407 < (0 : Int))) then
      none
    else
      match a406[a407.toNat]? with
      | some x410 =>
        k0 x410
      | none => none
  else
    k0 (0 : Int)
theorem spec_l5At.ex : ∃ f : ((α : Type) → Nat → List Int → Int → (Int → Option α) → Option α), f = fun α => @spec_l5At.b α := ⟨_, rfl⟩
noncomputable def spec_l5At {α : Type} : Nat → List Int → Int → (Int → Option α) → Option α := Classical.choose spec_l5At.ex α
theorem spec_l5At.eq : @spec_l5At = @spec_l5At.b := funext fun α => congrFun (Classical.choose_spec spec_l5At.ex) α

noncomputable def spec_l5Add_J2.b {α : Type} (N : Nat) (v390 : List Int) (v391 : List Int) (v392 : Int) (k0 : List Int → List Int → Int → Option α) : Option α :=
  let x393 := ((v391.length : Nat) : Int)
  let x394 := decide (v392 < x393)
  bif x394 then
    let x395 := ((v391.length : Nat) : Int)
    k0 v390 v391 x395
  else
    k0 v390 v391 v392
theorem spec_l5Add_J2.ex : ∃ f : ((α : Type) → Nat → List Int → List Int → Int → (List Int → List Int → Int → Option α) → Option α), f = fun α => @spec_l5Add_J2.b α := ⟨_, rfl⟩
noncomputable def spec_l5Add_J2 {α : Type} : Nat → List Int → List Int → Int → (List Int → List Int → Int → Option α) → Option α := Classical.choose spec_l5Add_J2.ex α
theorem spec_l5Add_J2.eq : @spec_l5Add_J2 = @spec_l5Add_J2.b := funext fun α => congrFun (Classical.choose_spec spec_l5Add_J2.ex) α
noncomputable def spec_l5Add_L0r {α : Type} (N : Nat) (next : List Int → List Int → Int → Int → Int → List Int → Option α) (k0 : Int → List Int → Option α) (v399 : List Int) (v400 : List Int) (v401 : Int) (v402 : Int) (v403 : Int) (v404 : List Int) : Option α :=
  let x405 := decide (v403 < v401)
  bif x405 then
    spec_l5At N v399 v403
      (fun x411 =>
        spec_l5At N v400 v403
          (fun x412 =>
            let x413 := IntKind.i64.wrap (x411 + x412)
            let x414 := IntKind.i64.wrap (x413 + v402)
            let x415 := (Int.tmod x414 (65536 : Int))
            let x416 := [x415]
            bif decide (v404.length + x416.length ≤ 8796093022208) then
              let x417 := v404 ++ x416
              let x418 := (IntKind.i64.wrap (Int.tdiv x414 (65536 : Int)))
              let x419 := (IntKind.i64.wrap (v403 + (1 : Int)))
              next v399 v400 v401 x418 x419 x417
            else
              none))
  else
    k0 v402 v404
noncomputable def spec_l5Add_L0.b {α : Type} (N n : Nat) (v399 : List Int) (v400 : List Int) (v401 : Int) (v402 : Int) (v403 : Int) (v404 : List Int) (k0 : Int → List Int → Option α) : Option α :=
  Nat.rec (motive := fun _ => List Int → List Int → Int → Int → Int → List Int → Option α) (fun _ _ _ _ _ _ => none) (fun _ next => spec_l5Add_L0r N next k0) n v399 v400 v401 v402 v403 v404
theorem spec_l5Add_L0.ex : ∃ f : ((α : Type) → Nat → Nat → List Int → List Int → Int → Int → Int → List Int → (Int → List Int → Option α) → Option α), f = fun α => @spec_l5Add_L0.b α := ⟨_, rfl⟩
noncomputable def spec_l5Add_L0 {α : Type} : Nat → Nat → List Int → List Int → Int → Int → Int → List Int → (Int → List Int → Option α) → Option α := Classical.choose spec_l5Add_L0.ex α
theorem spec_l5Add_L0.eq : @spec_l5Add_L0 = @spec_l5Add_L0.b := funext fun α => congrFun (Classical.choose_spec spec_l5Add_L0.ex) α
theorem spec_l5Add_L0.zero {α : Type} (N : Nat) (v399 : List Int) (v400 : List Int) (v401 : Int) (v402 : Int) (v403 : Int) (v404 : List Int) (k0 : Int → List Int → Option α) : spec_l5Add_L0 N 0 v399 v400 v401 v402 v403 v404 k0 = none := by rw [spec_l5Add_L0.eq]; rfl
theorem spec_l5Add_L0.succ {α : Type} (N n : Nat) (v399 : List Int) (v400 : List Int) (v401 : Int) (v402 : Int) (v403 : Int) (v404 : List Int) (k0 : Int → List Int → Option α) : spec_l5Add_L0 N (n + 1) v399 v400 v401 v402 v403 v404 k0 = spec_l5Add_L0r N (fun y0 y1 y2 y3 y4 y5 => spec_l5Add_L0 N n y0 y1 y2 y3 y4 y5 k0) k0 v399 v400 v401 v402 v403 v404 := by rw [spec_l5Add_L0.eq]; rfl
noncomputable def spec_l5Add_J12.b {α : Type} (N : Nat) (v422 : Int) (v423 : List Int) (k0 : List Int → Option α) : Option α :=
  let x424 := (decide ((0 : Int) < v422))
  bif x424 then
    let x425 := [v422]
    bif decide (v423.length + x425.length ≤ 8796093022208) then
      let x426 := v423 ++ x425
      k0 x426
    else
      none
  else
    k0 v423
theorem spec_l5Add_J12.ex : ∃ f : ((α : Type) → Nat → Int → List Int → (List Int → Option α) → Option α), f = fun α => @spec_l5Add_J12.b α := ⟨_, rfl⟩
noncomputable def spec_l5Add_J12 {α : Type} : Nat → Int → List Int → (List Int → Option α) → Option α := Classical.choose spec_l5Add_J12.ex α
theorem spec_l5Add_J12.eq : @spec_l5Add_J12 = @spec_l5Add_J12.b := funext fun α => congrFun (Classical.choose_spec spec_l5Add_J12.ex) α
/-- loop.example/pinfold/spec.l5Add -/
noncomputable def spec_l5Add.b {α : Type} (N : Nat) (a387 : List Int) (a388 : List Int) (k0 : List Int → Option α) : Option α :=
  let x389 := ((a387.length : Nat) : Int)
  spec_l5Add_J2 N a387 a388 x389
    (fun x396 x397 x398 =>
      spec_l5Add_L0 N N x396 x397 x398 (0 : Int) (0 : Int) []
        (fun x420 x421 =>
          spec_l5Add_J12 N x420 x421
            (fun x427 =>
              k0 x427)))
theorem spec_l5Add.ex : ∃ f : ((α : Type) → Nat → List Int → List Int → (List Int → Option α) → Option α), f = fun α => @spec_l5Add.b α := ⟨_, rfl⟩
noncomputable def spec_l5Add {α : Type} : Nat → List Int → List Int → (List Int → Option α) → Option α := Classical.choose spec_l5Add.ex α
theorem spec_l5Add.eq : @spec_l5Add = @spec_l5Add.b := funext fun α => congrFun (Classical.choose_spec spec_l5Add.ex) α

noncomputable def spec_l5Sub_J8.b {α : Type} (N : Nat) (v480 : List Int) (v481 : List Int) (v482 : Int) (v483 : Int) (v484 : Int) (v485 : List Int) (k0 : List Int → List Int → Int → Int → Int → List Int → Option α) : Option α :=
  let x486 := (decide (v484 < (0 : Int)))
  bif x486 then
    let x487 := (IntKind.i64.wrap (v484 + (65536 : Int)))
    k0 v480 v481 (1 : Int) v483 x487 v485
  else
    k0 v480 v481 v482 v483 v484 v485
theorem spec_l5Sub_J8.ex : ∃ f : ((α : Type) → Nat → List Int → List Int → Int → Int → Int → List Int → (List Int → List Int → Int → Int → Int → List Int → Option α) → Option α), f = fun α => @spec_l5Sub_J8.b α := ⟨_, rfl⟩
noncomputable def spec_l5Sub_J8 {α : Type} : Nat → List Int → List Int → Int → Int → Int → List Int → (List Int → List Int → Int → Int → Int → List Int → Option α) → Option α := Classical.choose spec_l5Sub_J8.ex α
theorem spec_l5Sub_J8.eq : @spec_l5Sub_J8 = @spec_l5Sub_J8.b := funext fun α => congrFun (Classical.choose_spec spec_l5Sub_J8.ex) α
noncomputable def spec_l5Sub_L0r {α : Type} (N : Nat) (next : List Int → List Int → Int → Int → List Int → Option α) (k0 : List Int → Option α) (v469 : List Int) (v470 : List Int) (v471 : Int) (v472 : Int) (v473 : List Int) : Option α :=
  let x474 := ((v469.length : Nat) : Int)
  let x475 := decide (v472 < x474)
  bif x475 then
    bif (decide (v472 < (0 : Int))) then
      none
    else
      match v469[v472.toNat]? with
      | some x476 =>
        spec_l5At N v470 v472
          (fun x477 =>
            let x478 := IntKind.i64.wrap (x476 - x477)
            let x479 := IntKind.i64.wrap (x478 - v471)
            spec_l5Sub_J8 N v469 v470 (0 : Int) v472 x479 v473
              (fun x488 x489 x490 x491 x492 x493 =>
                let x494 := [x492]
                bif decide (x493.length + x494.length ≤ 8796093022208) then
                  let x495 := x493 ++ x494
                  let x496 := (IntKind.i64.wrap (x491 + (1 : Int)))
                  next x488 x489 x490 x496 x495
                else
                  none))
      | none => none
  else
    k0 v473
noncomputable def spec_l5Sub_L0.b {α : Type} (N n : Nat) (v469 : List Int) (v470 : List Int) (v471 : Int) (v472 : Int) (v473 : List Int) (k0 : List Int → Option α) : Option α :=
  Nat.rec (motive := fun _ => List Int → List Int → Int → Int → List Int → Option α) (fun _ _ _ _ _ => none) (fun _ next => spec_l5Sub_L0r N next k0) n v469 v470 v471 v472 v473
theorem spec_l5Sub_L0.ex : ∃ f : ((α : Type) → Nat → Nat → List Int → List Int → Int → Int → List Int → (List Int → Option α) → Option α), f = fun α => @spec_l5Sub_L0.b α := ⟨_, rfl⟩
noncomputable def spec_l5Sub_L0 {α : Type} : Nat → Nat → List Int → List Int → Int → Int → List Int → (List Int → Option α) → Option α := Classical.choose spec_l5Sub_L0.ex α
theorem spec_l5Sub_L0.eq : @spec_l5Sub_L0 = @spec_l5Sub_L0.b := funext fun α => congrFun (Classical.choose_spec spec_l5Sub_L0.ex) α
theorem spec_l5Sub_L0.zero {α : Type} (N : Nat) (v469 : List Int) (v470 : List Int) (v471 : Int) (v472 : Int) (v473 : List Int) (k0 : List Int → Option α) : spec_l5Sub_L0 N 0 v469 v470 v471 v472 v473 k0 = none := by rw [spec_l5Sub_L0.eq]; rfl
theorem spec_l5Sub_L0.succ {α : Type} (N n : Nat) (v469 : List Int) (v470 : List Int) (v471 : Int) (v472 : Int) (v473 : List Int) (k0 : List Int → Option α) : spec_l5Sub_L0 N (n + 1) v469 v470 v471 v472 v473 k0 = spec_l5Sub_L0r N (fun y0 y1 y2 y3 y4 => spec_l5Sub_L0 N n y0 y1 y2 y3 y4 k0) k0 v469 v470 v471 v472 v473 := by rw [spec_l5Sub_L0.eq]; rfl
/-- loop.example/pinfold/spec.l5Sub -/
noncomputable def spec_l5Sub.b {α : Type} (N : Nat) (a467 : List Int) (a468 : List Int) (k0 : List Int → Option α) : Option α :=
  spec_l5Sub_L0 N N a467 a468 (0 : Int) (0 : Int) []
    (fun x497 =>
      spec_l5Trim N x497
        (fun x498 =>
          k0 x498))
theorem spec_l5Sub.ex : ∃ f : ((α : Type) → Nat → List Int → List Int → (List Int → Option α) → Option α), f = fun α => @spec_l5Sub.b α := ⟨_, rfl⟩
noncomputable def spec_l5Sub {α : Type} : Nat → List Int → List Int → (List Int → Option α) → Option α := Classical.choose spec_l5Sub.ex α
theorem spec_l5Sub.eq : @spec_l5Sub = @spec_l5Sub.b := funext fun α => congrFun (Classical.choose_spec spec_l5Sub.ex) α

noncomputable def spec_l5Div_J17.b {α : Type} (N : Nat) (v438 : Int) (v439 : Int) (v440 : Int) (v441 : Int) (v442 : List Int) (v443 : List Int) (v444 : List Int) (v445 : List Int) (k0 : Int → Int → Int → Int → List Int → List Int → List Int → List Int → Option α) : Option α :=
  let x446 := (decide ((65536 : Int) ≤ v441))
  bif x446 then
    k0 v438 v439 v440 (65535 : Int) v442 v443 v444 v445
  else
    k0 v438 v439 v440 v441 v442 v443 v444 v445
theorem spec_l5Div_J17.ex : ∃ f : ((α : Type) → Nat → Int → Int → Int → Int → List Int → List Int → List Int → List Int → (Int → Int → Int → Int → List Int → List Int → List Int → List Int → Option α) → Option α), f = fun α => @spec_l5Div_J17.b α := ⟨_, rfl⟩
noncomputable def spec_l5Div_J17 {α : Type} : Nat → Int → Int → Int → Int → List Int → List Int → List Int → List Int → (Int → Int → Int → Int → List Int → List Int → List Int → List Int → Option α) → Option α := Classical.choose spec_l5Div_J17.ex α
theorem spec_l5Div_J17.eq : @spec_l5Div_J17 = @spec_l5Div_J17.b := funext fun α => congrFun (Classical.choose_spec spec_l5Div_J17.ex) α
noncomputable def spec_l5Div_L2r {α : Type} (N : Nat) (next : Int → Int → Int → Int → List Int → List Int → List Int → List Int → List Int → Option α) (k0 : Int → Int → Int → Int → List Int → List Int → List Int → List Int → List Int → Option α) (v456 : Int) (v457 : Int) (v458 : Int) (v459 : Int) (v460 : List Int) (v461 : List Int) (v462 : List Int) (v463 : List Int) (v464 : List Int) : Option α :=
  spec_l5Cmp N v464 v463
    (fun x465 =>
      let x466 := (decide ((0 : Int) < x465))
      bif x466 then
        spec_l5Sub N v464 v461
          (fun x499 =>
            let x500 := (IntKind.i64.wrap (v459 - (1 : Int)))
            next v456 v457 v458 x500 v460 v461 v462 v463 x499)
      else
        k0 v456 v457 v458 v459 v460 v461 v462 v463 v464)
noncomputable def spec_l5Div_L2.b {α : Type} (N n : Nat) (v456 : Int) (v457 : Int) (v458 : Int) (v459 : Int) (v460 : List Int) (v461 : List Int) (v462 : List Int) (v463 : List Int) (v464 : List Int) (k0 : Int → Int → Int → Int → List Int → List Int → List Int → List Int → List Int → Option α) : Option α :=
  Nat.rec (motive := fun _ => Int → Int → Int → Int → List Int → List Int → List Int → List Int → List Int → Option α) (fun _ _ _ _ _ _ _ _ _ => none) (fun _ next => spec_l5Div_L2r N next k0) n v456 v457 v458 v459 v460 v461 v462 v463 v464
theorem spec_l5Div_L2.ex : ∃ f : ((α : Type) → Nat → Nat → Int → Int → Int → Int → List Int → List Int → List Int → List Int → List Int → (Int → Int → Int → Int → List Int → List Int → List Int → List Int → List Int → Option α) → Option α), f = fun α => @spec_l5Div_L2.b α := ⟨_, rfl⟩
noncomputable def spec_l5Div_L2 {α : Type} : Nat → Nat → Int → Int → Int → Int → List Int → List Int → List Int → List Int → List Int → (Int → Int → Int → Int → List Int → List Int → List Int → List Int → List Int → Option α) → Option α := Classical.choose spec_l5Div_L2.ex α
theorem spec_l5Div_L2.eq : @spec_l5Div_L2 = @spec_l5Div_L2.b := funext fun α => congrFun (Classical.choose_spec spec_l5Div_L2.ex) α
theorem spec_l5Div_L2.zero {α : Type} (N : Nat) (v456 : Int) (v457 : Int) (v458 : Int) (v459 : Int) (v460 : List Int) (v461 : List Int) (v462 : List Int) (v463 : List Int) (v464 : List Int) (k0 : Int → Int → Int → Int → List Int → List Int → List Int → List Int → List Int → Option α) : spec_l5Div_L2 N 0 v456 v457 v458 v459 v460 v461 v462 v463 v464 k0 = none := by rw [spec_l5Div_L2.eq]; rfl
theorem spec_l5Div_L2.succ {α : Type} (N n : Nat) (v456 : Int) (v457 : Int) (v458 : Int) (v459 : Int) (v460 : List Int) (v461 : List Int) (v462 : List Int) (v463 : List Int) (v464 : List Int) (k0 : Int → Int → Int → Int → List Int → List Int → List Int → List Int → List Int → Option α) : spec_l5Div_L2 N (n + 1) v456 v457 v458 v459 v460 v461 v462 v463 v464 k0 = spec_l5Div_L2r N (fun y0 y1 y2 y3 y4 y5 y6 y7 y8 => spec_l5Div_L2 N n y0 y1 y2 y3 y4 y5 y6 y7 y8 k0) k0 v456 v457 v458 v459 v460 v461 v462 v463 v464 := by rw [spec_l5Div_L2.eq]; rfl
noncomputable def spec_l5Div_L0r {α : Type} (N : Nat) (next : Int → Int → Int → List Int → List Int → List Int → List Int → Option α) (k0 : Int → List Int → List Int → Option α) (v360 : Int) (v361 : Int) (v362 : Int) (v363 : List Int) (v364 : List Int) (v365 : List Int) (v366 : List Int) : Option α :=
  let x367 := (decide ((0 : Int) ≤ v362))
  bif x367 then
    spec_l5Shl N v366 (1 : Int)
      (fun x383 =>
        bif (decide (v362 < (0 : Int))) then
          none
        else
          bif decide (v362.toNat < v363.length) then
            match v363[v362.toNat]? with
            | some x384 =>
              let x385 := IntKind.u64.wrap x384
              spec_NatOf N x385
                (fun x386 =>
                  spec_l5Add N x383 x386
                    (fun x428 =>
                      spec_l5Trim N x428
                        (fun x429 =>
                          spec_l5At N x429 v361
                            (fun x430 =>
                              let x431 := (IntKind.i64.wrap (x430 * (65536 : Int)))
                              let x432 := (IntKind.i64.wrap (v361 - (1 : Int)))
                              spec_l5At N x429 x432
                                (fun x433 =>
                                  let x434 := IntKind.i64.wrap (x431 + x433)
                                  let x435 := (IntKind.i64.wrap (v361 - (1 : Int)))
                                  bif (decide (x435 < (0 : Int))) then
                                    none
                                  else
                                    bif decide (x435.toNat < v364.length) then
                                      match v364[x435.toNat]? with
                                      | some x436 =>
                                        bif (decide (x436 = (0 : Int))) then
                                          none
                                        else
                                          let x437 := IntKind.i64.wrap (Int.tdiv x434 x436)
                                          spec_l5Div_J17 N v360 v361 v362 x437 v363 v364 v365 x429
                                            (fun x447 x448 x449 x450 x451 x452 x453 x454 =>
                                              spec_l5Times N x452 x450
                                                (fun x455 =>
                                                  spec_l5Div_L2 N N x447 x448 x449 x450 x451 x452 x453 x454 x455
                                                    (fun x501 x502 x503 x504 x505 x506 x507 x508 x509 =>
                                                      bif (decide (x503 < (0 : Int))) then
                                                        none
                                                      else
                                                        bif decide (x503.toNat < x507.length) then
                                                          match x507[x503.toNat]? with
                                                          | some x510 =>
                                                            let x511 := x507.set x503.toNat x504
                                                            spec_l5Sub N x508 x509
                                                              (fun x512 =>
                                                                let x513 := (IntKind.i64.wrap (x503 - (1 : Int)))
                                                                next x501 x502 x513 x505 x506 x511 x512)
                                                          | none => none
                                                        else
                                                          none)))
                                      | none => none
                                    else
                                      none)))))
            | none => none
          else
            none)
  else
    k0 v360 v365 v366
noncomputable def spec_l5Div_L0.b {α : Type} (N n : Nat) (v360 : Int) (v361 : Int) (v362 : Int) (v363 : List Int) (v364 : List Int) (v365 : List Int) (v366 : List Int) (k0 : Int → List Int → List Int → Option α) : Option α :=
  Nat.rec (motive := fun _ => Int → Int → Int → List Int → List Int → List Int → List Int → Option α) (fun _ _ _ _ _ _ _ => none) (fun _ next => spec_l5Div_L0r N next k0) n v360 v361 v362 v363 v364 v365 v366
theorem spec_l5Div_L0.ex : ∃ f : ((α : Type) → Nat → Nat → Int → Int → Int → List Int → List Int → List Int → List Int → (Int → List Int → List Int → Option α) → Option α), f = fun α => @spec_l5Div_L0.b α := ⟨_, rfl⟩
noncomputable def spec_l5Div_L0 {α : Type} : Nat → Nat → Int → Int → Int → List Int → List Int → List Int → List Int → (Int → List Int → List Int → Option α) → Option α := Classical.choose spec_l5Div_L0.ex α
theorem spec_l5Div_L0.eq : @spec_l5Div_L0 = @spec_l5Div_L0.b := funext fun α => congrFun (Classical.choose_spec spec_l5Div_L0.ex) α
theorem spec_l5Div_L0.zero {α : Type} (N : Nat) (v360 : Int) (v361 : Int) (v362 : Int) (v363 : List Int) (v364 : List Int) (v365 : List Int) (v366 : List Int) (k0 : Int → List Int → List Int → Option α) : spec_l5Div_L0 N 0 v360 v361 v362 v363 v364 v365 v366 k0 = none := by rw [spec_l5Div_L0.eq]; rfl
theorem spec_l5Div_L0.succ {α : Type} (N n : Nat) (v360 : Int) (v361 : Int) (v362 : Int) (v363 : List Int) (v364 : List Int) (v365 : List Int) (v366 : List Int) (k0 : Int → List Int → List Int → Option α) : spec_l5Div_L0 N (n + 1) v360 v361 v362 v363 v364 v365 v366 k0 = spec_l5Div_L0r N (fun y0 y1 y2 y3 y4 y5 y6 => spec_l5Div_L0 N n y0 y1 y2 y3 y4 y5 y6 k0) k0 v360 v361 v362 v363 v364 v365 v366 := by rw [spec_l5Div_L0.eq]; rfl
/-- loop.example/pinfold/spec.l5Div -/
noncomputable def spec_l5Div.b {α : Type} (N : Nat) (a213 : List Int) (a214 : List Int) (k0 : List Int → List Int → Option α) : Option α :=
  spec_l5Cmp N a213 a214
    (fun x237 =>
      let x238 := (decide (x237 < (0 : Int)))
      bif x238 then
        spec_l5Trim N a213
          (fun x239 =>
            k0 [] x239)
      else
        let x240 := ((a214.length : Nat) : Int)
        let x241 := (decide (x240 = (1 : Int)))
        bif x241 then
          match a214[0]? with
          | some x242 =>
            spec_l5DivSmall N a213 x242
              (fun x266 x267 =>
                let x268 := IntKind.u64.wrap x266
                spec_NatOf N x268
                  (fun x279 =>
                    k0 x267 x279))
          | none => none
        else
          let x280 := ((a214.length : Nat) : Int)
          let x281 := (IntKind.i64.wrap (x280 - (1 : Int)))
          bif (decide (x281 < (0 : Int))) then
            none
          else
            match a214[x281.toNat]? with
            | some x282 =>
              let x283 := (IntKind.i64.wrap (x282 + (1 : Int)))
              bif (decide (x283 = (0 : Int))) then
                none
              else
                let x284 := (IntKind.i64.wrap (Int.tdiv (65536 : Int) x283))
                spec_l5Times N a213 x284
                  (fun x335 =>
                    spec_l5Times N a214 x284
                      (fun x336 =>
                        let x337 := ((x336.length : Nat) : Int)
                        let x338 := ((x335.length : Nat) : Int)
                        let x339 := IntKind.i64.wrap (x338 - x337)
                        let x340 := (IntKind.i64.wrap (x339 + (1 : Int)))
                        bif (decide ((0 : Int) ≤ x340)) then
                          bif decide (x340 ≤ x340) then
                            bif (decide (x340 ≤ ((8796093022208 : Nat) : Int))) then
                              let x341 := (List.replicate x340.toNat (0 : Int))
                              let x342 := ((x335.length : Nat) : Int)
                              let x343 := IntKind.i64.wrap (x342 - x337)
                              let x344 := (IntKind.i64.wrap (x343 + (1 : Int)))
                              spec_l5Top N x335 x344
                                (fun x357 =>
                                  let x358 := ((x335.length : Nat) : Int)
                                  let x359 := IntKind.i64.wrap (x358 - x337)
                                  spec_l5Div_L0 N N x284 x337 x359 x335 x336 x341 x357
                                    (fun x514 x515 x516 =>
                                      spec_l5DivSmall N x516 x514
                                        (fun _ x518 =>
                                          spec_l5Trim N x515
                                            (fun x519 =>
                                              k0 x519 x518))))
                            else
                              none
                          else
                            none
                        else
                          none))
            | none => none)
theorem spec_l5Div.ex : ∃ f : ((α : Type) → Nat → List Int → List Int → (List Int → List Int → Option α) → Option α), f = fun α => @spec_l5Div.b α := ⟨_, rfl⟩
noncomputable def spec_l5Div {α : Type} : Nat → List Int → List Int → (List Int → List Int → Option α) → Option α := Classical.choose spec_l5Div.ex α
theorem spec_l5Div.eq : @spec_l5Div = @spec_l5Div.b := funext fun α => congrFun (Classical.choose_spec spec_l5Div.ex) α

noncomputable def spec_l5Gcd_L0r {α : Type} (N : Nat) (next : List Int → List Int → Option α) (k0 : List Int → Option α) (v209 : List Int) (v210 : List Int) : Option α :=
  let x211 := ((v210.length : Nat) : Int)
  let x212 := (decide ((0 : Int) < x211))
  bif x212 then
    spec_l5Div N v209 v210
      (fun _ x521 =>
        next v210 x521)
  else
    k0 v209
noncomputable def spec_l5Gcd_L0.b {α : Type} (N n : Nat) (v209 : List Int) (v210 : List Int) (k0 : List Int → Option α) : Option α :=
  Nat.rec (motive := fun _ => List Int → List Int → Option α) (fun _ _ => none) (fun _ next => spec_l5Gcd_L0r N next k0) n v209 v210
theorem spec_l5Gcd_L0.ex : ∃ f : ((α : Type) → Nat → Nat → List Int → List Int → (List Int → Option α) → Option α), f = fun α => @spec_l5Gcd_L0.b α := ⟨_, rfl⟩
noncomputable def spec_l5Gcd_L0 {α : Type} : Nat → Nat → List Int → List Int → (List Int → Option α) → Option α := Classical.choose spec_l5Gcd_L0.ex α
theorem spec_l5Gcd_L0.eq : @spec_l5Gcd_L0 = @spec_l5Gcd_L0.b := funext fun α => congrFun (Classical.choose_spec spec_l5Gcd_L0.ex) α
theorem spec_l5Gcd_L0.zero {α : Type} (N : Nat) (v209 : List Int) (v210 : List Int) (k0 : List Int → Option α) : spec_l5Gcd_L0 N 0 v209 v210 k0 = none := by rw [spec_l5Gcd_L0.eq]; rfl
theorem spec_l5Gcd_L0.succ {α : Type} (N n : Nat) (v209 : List Int) (v210 : List Int) (k0 : List Int → Option α) : spec_l5Gcd_L0 N (n + 1) v209 v210 k0 = spec_l5Gcd_L0r N (fun y0 y1 => spec_l5Gcd_L0 N n y0 y1 k0) k0 v209 v210 := by rw [spec_l5Gcd_L0.eq]; rfl
/-- loop.example/pinfold/spec.l5Gcd -/
noncomputable def spec_l5Gcd.b {α : Type} (N : Nat) (a184 : List Int) (a185 : List Int) (k0 : List Int → Option α) : Option α :=
  spec_l5Trim N a184
    (fun x207 =>
      spec_l5Trim N a185
        (fun x208 =>
          spec_l5Gcd_L0 N N x207 x208
            (fun x522 =>
              k0 x522)))
theorem spec_l5Gcd.ex : ∃ f : ((α : Type) → Nat → List Int → List Int → (List Int → Option α) → Option α), f = fun α => @spec_l5Gcd.b α := ⟨_, rfl⟩
noncomputable def spec_l5Gcd {α : Type} : Nat → List Int → List Int → (List Int → Option α) → Option α := Classical.choose spec_l5Gcd.ex α
theorem spec_l5Gcd.eq : @spec_l5Gcd = @spec_l5Gcd.b := funext fun α => congrFun (Classical.choose_spec spec_l5Gcd.ex) α

/-- loop.example/pinfold/spec.l6One -/
noncomputable def spec_l6One.b {α : Type} (N : Nat) (a524 : List Int) (k0 : Bool → Option α) : Option α :=
  let x525 := ((a524.length : Nat) : Int)
  let x526 := (decide (x525 = (1 : Int)))
  bif x526 then
    match a524[0]? with
    | some x527 =>
      let x528 := (decide (x527 = (1 : Int)))
      k0 x528
    | none => none
  else
    k0 false
theorem spec_l6One.ex : ∃ f : ((α : Type) → Nat → List Int → (Bool → Option α) → Option α), f = fun α => @spec_l6One.b α := ⟨_, rfl⟩
noncomputable def spec_l6One {α : Type} : Nat → List Int → (Bool → Option α) → Option α := Classical.choose spec_l6One.ex α
theorem spec_l6One.eq : @spec_l6One = @spec_l6One.b := funext fun α => congrFun (Classical.choose_spec spec_l6One.ex) α

/-- loop.example/pinfold/spec.FracOk -/
noncomputable def spec_FracOk.b {α : Type} (N : Nat) (a155 : Bool × (List Int) × (List Int) × Unit) (k0 : Bool → Option α) : Option α :=
  spec_NatOk N a155.2.1
    (fun x176 =>
      let x177 := !x176
      bif x177 then
        k0 false
      else
        spec_NatOk N a155.2.2.1
          (fun x178 =>
            let x179 := !x178
            bif x179 then
              k0 false
            else
              let x180 := ((a155.2.2.1.length : Nat) : Int)
              let x181 := (decide (x180 = (0 : Int)))
              bif x181 then
                k0 false
              else
                let x182 := ((a155.2.1.length : Nat) : Int)
                let x183 := (decide (x182 = (0 : Int)))
                bif x183 then
                  bif a155.1 then
                    k0 false
                  else
                    spec_l5Gcd N a155.2.1 a155.2.2.1
                      (fun x523 =>
                        spec_l6One N x523
                          (fun x529 =>
                            k0 x529))
                else
                  spec_l5Gcd N a155.2.1 a155.2.2.1
                    (fun x530 =>
                      spec_l6One N x530
                        (fun x531 =>
                          k0 x531))))
theorem spec_FracOk.ex : ∃ f : ((α : Type) → Nat → (Bool × (List Int) × (List Int) × Unit) → (Bool → Option α) → Option α), f = fun α => @spec_FracOk.b α := ⟨_, rfl⟩
noncomputable def spec_FracOk {α : Type} : Nat → (Bool × (List Int) × (List Int) × Unit) → (Bool → Option α) → Option α := Classical.choose spec_FracOk.ex α
theorem spec_FracOk.eq : @spec_FracOk = @spec_FracOk.b := funext fun α => congrFun (Classical.choose_spec spec_FracOk.ex) α

/-- loop.example/pinfold/spec.l8Frac -/
noncomputable def spec_l8Frac.b {α : Type} (N : Nat) (a538 : Bool × (List Int) × (List Int) × Unit) (k0 : (Bool × (List Int) × (List Int) × Unit) → Option α) : Option α :=
  k0 (a538.1, (a538.2.1, (a538.2.2.1, ())))
theorem spec_l8Frac.ex : ∃ f : ((α : Type) → Nat → (Bool × (List Int) × (List Int) × Unit) → ((Bool × (List Int) × (List Int) × Unit) → Option α) → Option α), f = fun α => @spec_l8Frac.b α := ⟨_, rfl⟩
noncomputable def spec_l8Frac {α : Type} : Nat → (Bool × (List Int) × (List Int) × Unit) → ((Bool × (List Int) × (List Int) × Unit) → Option α) → Option α := Classical.choose spec_l8Frac.ex α
theorem spec_l8Frac.eq : @spec_l8Frac = @spec_l8Frac.b := funext fun α => congrFun (Classical.choose_spec spec_l8Frac.ex) α

/-- loop.example/pinfold/spec.l1Least -/
noncomputable def spec_l1Least.b {α : Type} (N : Nat) (a552 : Int) (k0 : Int → Option α) : Option α :=
  let x553 := (decide (a552 = (32 : Int)))
  bif x553 then
    k0 (-149 : Int)
  else
    k0 (-1074 : Int)
theorem spec_l1Least.ex : ∃ f : ((α : Type) → Nat → Int → (Int → Option α) → Option α), f = fun α => @spec_l1Least.b α := ⟨_, rfl⟩
noncomputable def spec_l1Least {α : Type} : Nat → Int → (Int → Option α) → Option α := Classical.choose spec_l1Least.ex α
theorem spec_l1Least.eq : @spec_l1Least = @spec_l1Least.b := funext fun α => congrFun (Classical.choose_spec spec_l1Least.ex) α

/-- loop.example/pinfold/spec.l1Frac -/
noncomputable def spec_l1Frac.b {α : Type} (N : Nat) (a565 : Int) (k0 : Int → Option α) : Option α :=
  let x566 := (decide (a565 = (32 : Int)))
  bif x566 then
    k0 (23 : Int)
  else
    k0 (52 : Int)
theorem spec_l1Frac.ex : ∃ f : ((α : Type) → Nat → Int → (Int → Option α) → Option α), f = fun α => @spec_l1Frac.b α := ⟨_, rfl⟩
noncomputable def spec_l1Frac {α : Type} : Nat → Int → (Int → Option α) → Option α := Classical.choose spec_l1Frac.ex α
theorem spec_l1Frac.eq : @spec_l1Frac = @spec_l1Frac.b := funext fun α => congrFun (Classical.choose_spec spec_l1Frac.ex) α

noncomputable def spec_BitPartOf_J5.b {α : Type} (N : Nat) (v555 : Int) (v556 : Int) (v557 : Bool × Int × Int × Unit) (v558 : Bool × Int × Int × Unit) (k0 : Int → Int → (Bool × Int × Int × Unit) → (Bool × Int × Int × Unit) → Option α) : Option α :=
  let x559 := (decide (v556 < (0 : Int)))
  bif x559 then
    let x560 := IntKind.i64.wrap (0 - v556)
    k0 v555 x560 v557 v558
  else
    k0 v555 v556 v557 v558
theorem spec_BitPartOf_J5.ex : ∃ f : ((α : Type) → Nat → Int → Int → (Bool × Int × Int × Unit) → (Bool × Int × Int × Unit) → (Int → Int → (Bool × Int × Int × Unit) → (Bool × Int × Int × Unit) → Option α) → Option α), f = fun α => @spec_BitPartOf_J5.b α := ⟨_, rfl⟩
noncomputable def spec_BitPartOf_J5 {α : Type} : Nat → Int → Int → (Bool × Int × Int × Unit) → (Bool × Int × Int × Unit) → (Int → Int → (Bool × Int × Int × Unit) → (Bool × Int × Int × Unit) → Option α) → Option α := Classical.choose spec_BitPartOf_J5.ex α
theorem spec_BitPartOf_J5.eq : @spec_BitPartOf_J5 = @spec_BitPartOf_J5.b := funext fun α => congrFun (Classical.choose_spec spec_BitPartOf_J5.ex) α
noncomputable def spec_BitPartOf_J10.b {α : Type} (N : Nat) (v573 : Int) (v574 : Int) (v575 : Bool × Int × Int × Unit) (v576 : Bool × Int × Int × Unit) (k0 : (Bool × Int × Int × Unit) → (Bool × Int × Int × Unit) → Option α) : Option α :=
  let x577 := (decide ((0 : Int) < v574))
  bif x577 then
    let x578 := IntKind.u64.wrap v573
    let x579 := IntKind.u64.wrap (v576.2.1 + x578)
    let x580 := IntKind.i64.wrap (v576.2.2.1 + v574)
    let x581 := (IntKind.i64.wrap (x580 - (1 : Int)))
    k0 v575 (v576.1, (x579, (x581, ())))
  else
    k0 v575 v576
theorem spec_BitPartOf_J10.ex : ∃ f : ((α : Type) → Nat → Int → Int → (Bool × Int × Int × Unit) → (Bool × Int × Int × Unit) → ((Bool × Int × Int × Unit) → (Bool × Int × Int × Unit) → Option α) → Option α), f = fun α => @spec_BitPartOf_J10.b α := ⟨_, rfl⟩
noncomputable def spec_BitPartOf_J10 {α : Type} : Nat → Int → Int → (Bool × Int × Int × Unit) → (Bool × Int × Int × Unit) → ((Bool × Int × Int × Unit) → (Bool × Int × Int × Unit) → Option α) → Option α := Classical.choose spec_BitPartOf_J10.ex α
theorem spec_BitPartOf_J10.eq : @spec_BitPartOf_J10 = @spec_BitPartOf_J10.b := funext fun α => congrFun (Classical.choose_spec spec_BitPartOf_J10.ex) α
/-- loop.example/pinfold/spec.BitPartOf -/
noncomputable def spec_BitPartOf.b {α : Type} (N : Nat) (a542 : Int) (a543 : Int) (k0 : (Bool × Int × Int × Unit) → Bool → Option α) : Option α :=
  spec_BitOk N a542 a543
    (fun x544 =>
      let x545 := !x544
      bif x545 then
        k0 (false, ((0 : Int), ((0 : Int), ()))) false
      else
        spec_BitTop N a542
          (fun x546 =>
            let x547 := decide (a543 = x546)
            bif x547 then
              k0 (false, ((0 : Int), ((0 : Int), ()))) false
            else
              spec_BitTop N a542
                (fun x548 =>
                  let x549 := IntKind.i64.wrap (0 - x548)
                  let x550 := decide (a543 = x549)
                  bif x550 then
                    k0 (false, ((0 : Int), ((0 : Int), ()))) false
                  else
                    let x551 := (decide (a543 < (0 : Int)))
                    spec_l1Least N a542
                      (fun x554 =>
                        spec_BitPartOf_J5 N a542 a543 (false, ((0 : Int), ((0 : Int), ()))) (x551, ((0 : Int), (x554, ())))
                          (fun x561 x562 x563 x564 =>
                            spec_l1Frac N x561
                              (fun x567 =>
                                let x568 := IntKind.u64.wrap x567
                                bif (decide (x568 < (0 : Int))) then
                                  none
                                else
                                  let x569 := (shlI .i64 (1 : Int) x568)
                                  bif (decide (x569 = (0 : Int))) then
                                    none
                                  else
                                    let x570 := IntKind.i64.wrap (Int.tdiv x562 x569)
                                    bif (decide (x569 = (0 : Int))) then
                                      none
                                    else
                                      let x571 := Int.tmod x562 x569
                                      let x572 := IntKind.u64.wrap x571
                                      spec_BitPartOf_J10 N x569 x570 x563 (x564.1, (x572, (x564.2.2.1, ())))
                                        (fun _ x583 =>
                                          k0 x583 true)))))))
theorem spec_BitPartOf.ex : ∃ f : ((α : Type) → Nat → Int → Int → ((Bool × Int × Int × Unit) → Bool → Option α) → Option α), f = fun α => @spec_BitPartOf.b α := ⟨_, rfl⟩
noncomputable def spec_BitPartOf {α : Type} : Nat → Int → Int → ((Bool × Int × Int × Unit) → Bool → Option α) → Option α := Classical.choose spec_BitPartOf.ex α
theorem spec_BitPartOf.eq : @spec_BitPartOf = @spec_BitPartOf.b := funext fun α => congrFun (Classical.choose_spec spec_BitPartOf.ex) α

/-- loop.example/pinfold/spec.l5Pow2 -/
noncomputable def spec_l5Pow2.b {α : Type} (N : Nat) (a596 : Int) (k0 : List Int → Option α) : Option α :=
  let x597 := (Int.tmod a596 (16 : Int))
  let x598 := IntKind.u64.wrap x597
  bif (decide (x598 < (0 : Int))) then
    none
  else
    let x599 := (shlI .i64 (1 : Int) x598)
    let x600 := [x599]
    let x601 := (IntKind.i64.wrap (Int.tdiv a596 (16 : Int)))
    spec_l5Shl N x600 x601
      (fun x602 =>
        k0 x602)
theorem spec_l5Pow2.ex : ∃ f : ((α : Type) → Nat → Int → (List Int → Option α) → Option α), f = fun α => @spec_l5Pow2.b α := ⟨_, rfl⟩
noncomputable def spec_l5Pow2 {α : Type} : Nat → Int → (List Int → Option α) → Option α := Classical.choose spec_l5Pow2.ex α
theorem spec_l5Pow2.eq : @spec_l5Pow2 = @spec_l5Pow2.b := funext fun α => congrFun (Classical.choose_spec spec_l5Pow2.ex) α

noncomputable def spec_l8Of_J3.b {α : Type} (N : Nat) (v588 : Bool) (v589 : Bool × Int × Int × Unit) (v590 : Bool) (v591 : List Int) (v592 : List Int) (v593 : List Int) (v594 : List Int) (k0 : Bool → Bool → List Int → List Int → List Int → List Int → Option α) : Option α :=
  let x595 := (decide ((0 : Int) ≤ v589.2.2.1))
  bif x595 then
    spec_l5Pow2 N v589.2.2.1
      (fun x603 =>
        spec_l5Mul N v593 x603
          (fun x604 =>
            k0 v588 v590 v591 v592 x604 v594))
  else
    let x605 := IntKind.i64.wrap (0 - v589.2.2.1)
    spec_l5Pow2 N x605
      (fun x606 =>
        k0 v588 v590 v591 v592 v593 x606)
theorem spec_l8Of_J3.ex : ∃ f : ((α : Type) → Nat → Bool → (Bool × Int × Int × Unit) → Bool → List Int → List Int → List Int → List Int → (Bool → Bool → List Int → List Int → List Int → List Int → Option α) → Option α), f = fun α => @spec_l8Of_J3.b α := ⟨_, rfl⟩
noncomputable def spec_l8Of_J3 {α : Type} : Nat → Bool → (Bool × Int × Int × Unit) → Bool → List Int → List Int → List Int → List Int → (Bool → Bool → List Int → List Int → List Int → List Int → Option α) → Option α := Classical.choose spec_l8Of_J3.ex α
theorem spec_l8Of_J3.eq : @spec_l8Of_J3 = @spec_l8Of_J3.b := funext fun α => congrFun (Classical.choose_spec spec_l8Of_J3.ex) α
/-- loop.example/pinfold/spec.l8Of -/
noncomputable def spec_l8Of.b {α : Type} (N : Nat) (a540 : Int) (a541 : Int) (k0 : Bool → List Int → List Int → Option α) : Option α :=
  spec_BitPartOf N a540 a541
    (fun x584 _ =>
      spec_NatOf N x584.2.1
        (fun x586 =>
          let x587 := [(1 : Int)]
          spec_l8Of_J3 N false x584 x584.1 [] [] x586 x587
            (fun _ x608 _ _ x611 x612 =>
              k0 x608 x611 x612)))
theorem spec_l8Of.ex : ∃ f : ((α : Type) → Nat → Int → Int → (Bool → List Int → List Int → Option α) → Option α), f = fun α => @spec_l8Of.b α := ⟨_, rfl⟩
noncomputable def spec_l8Of {α : Type} : Nat → Int → Int → (Bool → List Int → List Int → Option α) → Option α := Classical.choose spec_l8Of.ex α
theorem spec_l8Of.eq : @spec_l8Of = @spec_l8Of.b := funext fun α => congrFun (Classical.choose_spec spec_l8Of.ex) α

/-- loop.example/pinfold/spec.l8Cmp -/
noncomputable def spec_l8Cmp.b {α : Type} (N : Nat) (a616 : Bool × (List Int) × (List Int) × Unit) (a617 : Bool × (List Int) × (List Int) × Unit) (k0 : Int → Option α) : Option α :=
  spec_l5Mul N a616.2.1 a617.2.2.1
    (fun x618 =>
      spec_l5Mul N a617.2.1 a616.2.2.1
        (fun x619 =>
          let x620 := ((x618.length : Nat) : Int)
          let x621 := (decide (x620 = (0 : Int)))
          bif x621 then
            let x622 := ((x619.length : Nat) : Int)
            let x623 := (decide (x622 = (0 : Int)))
            bif x623 then
              k0 (0 : Int)
            else
              bif a616.1 then
                let x624 := ((x618.length : Nat) : Int)
                let x625 := (decide ((0 : Int) < x624))
                bif x625 then
                  bif a617.1 then
                    let x626 := ((x619.length : Nat) : Int)
                    let x627 := (decide ((0 : Int) < x626))
                    bif x627 then
                      spec_l5Cmp N x619 x618
                        (fun x628 =>
                          k0 x628)
                    else
                      k0 (-1 : Int)
                  else
                    k0 (-1 : Int)
                else
                  bif a617.1 then
                    let x629 := ((x619.length : Nat) : Int)
                    let x630 := (decide ((0 : Int) < x629))
                    bif x630 then
                      k0 (1 : Int)
                    else
                      spec_l5Cmp N x618 x619
                        (fun x631 =>
                          k0 x631)
                  else
                    spec_l5Cmp N x618 x619
                      (fun x632 =>
                        k0 x632)
              else
                bif a617.1 then
                  let x633 := ((x619.length : Nat) : Int)
                  let x634 := (decide ((0 : Int) < x633))
                  bif x634 then
                    k0 (1 : Int)
                  else
                    spec_l5Cmp N x618 x619
                      (fun x635 =>
                        k0 x635)
                else
                  spec_l5Cmp N x618 x619
                    (fun x636 =>
                      k0 x636)
          else
            bif a616.1 then
              let x637 := ((x618.length : Nat) : Int)
              let x638 := (decide ((0 : Int) < x637))
              bif x638 then
                bif a617.1 then
                  let x639 := ((x619.length : Nat) : Int)
                  let x640 := (decide ((0 : Int) < x639))
                  bif x640 then
                    spec_l5Cmp N x619 x618
                      (fun x641 =>
                        k0 x641)
                  else
                    k0 (-1 : Int)
                else
                  k0 (-1 : Int)
              else
                bif a617.1 then
                  let x642 := ((x619.length : Nat) : Int)
                  let x643 := (decide ((0 : Int) < x642))
                  bif x643 then
                    k0 (1 : Int)
                  else
                    spec_l5Cmp N x618 x619
                      (fun x644 =>
                        k0 x644)
                else
                  spec_l5Cmp N x618 x619
                    (fun x645 =>
                      k0 x645)
            else
              bif a617.1 then
                let x646 := ((x619.length : Nat) : Int)
                let x647 := (decide ((0 : Int) < x646))
                bif x647 then
                  k0 (1 : Int)
                else
                  spec_l5Cmp N x618 x619
                    (fun x648 =>
                      k0 x648)
              else
                spec_l5Cmp N x618 x619
                  (fun x649 =>
                    k0 x649)))
theorem spec_l8Cmp.ex : ∃ f : ((α : Type) → Nat → (Bool × (List Int) × (List Int) × Unit) → (Bool × (List Int) × (List Int) × Unit) → (Int → Option α) → Option α), f = fun α => @spec_l8Cmp.b α := ⟨_, rfl⟩
noncomputable def spec_l8Cmp {α : Type} : Nat → (Bool × (List Int) × (List Int) × Unit) → (Bool × (List Int) × (List Int) × Unit) → (Int → Option α) → Option α := Classical.choose spec_l8Cmp.ex α
theorem spec_l8Cmp.eq : @spec_l8Cmp = @spec_l8Cmp.b := funext fun α => congrFun (Classical.choose_spec spec_l8Cmp.ex) α

/-- loop.example/pinfold/spec.PairHas -/
noncomputable def spec_PairHas.b {α : Type} (N : Nat) (a150 : Int) (a151 : Int × Int × Unit) (a152 : Bool × (List Int) × (List Int) × Unit) (k0 : Bool → Option α) : Option α :=
  spec_PairOk N a150 a151
    (fun x153 =>
      let x154 := !x153
      bif x154 then
        k0 false
      else
        spec_FracOk N a152
          (fun x532 =>
            let x533 := !x532
            bif x533 then
              k0 false
            else
              spec_BitTop N a150
                (fun x534 =>
                  let x535 := IntKind.i64.wrap (0 - x534)
                  let x536 := decide (a151.1 = x535)
                  bif x536 then
                    let x537 := decide (a151.2.1 = x534)
                    bif x537 then
                      k0 true
                    else
                      spec_l8Frac N a152
                        (fun x539 =>
                          spec_l8Of N a150 a151.2.1
                            (fun x613 x614 x615 =>
                              spec_l8Cmp N x539 (x613, (x614, (x615, ())))
                                (fun x650 =>
                                  let x651 := (decide (x650 ≤ (0 : Int)))
                                  k0 x651)))
                  else
                    spec_l8Of N a150 a151.1
                      (fun x652 x653 x654 =>
                        spec_l8Frac N a152
                          (fun x655 =>
                            spec_l8Cmp N (x652, (x653, (x654, ()))) x655
                              (fun x656 =>
                                let x657 := (decide (x656 ≤ (0 : Int)))
                                bif x657 then
                                  let x658 := decide (a151.2.1 = x534)
                                  bif x658 then
                                    k0 true
                                  else
                                    spec_l8Frac N a152
                                      (fun x659 =>
                                        spec_l8Of N a150 a151.2.1
                                          (fun x660 x661 x662 =>
                                            spec_l8Cmp N x659 (x660, (x661, (x662, ())))
                                              (fun x663 =>
                                                let x664 := (decide (x663 ≤ (0 : Int)))
                                                k0 x664)))
                                else
                                  k0 false))))))
theorem spec_PairHas.ex : ∃ f : ((α : Type) → Nat → Int → (Int × Int × Unit) → (Bool × (List Int) × (List Int) × Unit) → (Bool → Option α) → Option α), f = fun α => @spec_PairHas.b α := ⟨_, rfl⟩
noncomputable def spec_PairHas {α : Type} : Nat → Int → (Int × Int × Unit) → (Bool × (List Int) × (List Int) × Unit) → (Bool → Option α) → Option α := Classical.choose spec_PairHas.ex α
theorem spec_PairHas.eq : @spec_PairHas = @spec_PairHas.b := funext fun α => congrFun (Classical.choose_spec spec_PairHas.ex) α

noncomputable def spec_BoxHas_L0r {α : Type} (N : Nat) (next : Int → List (Bool × (List Int) × (List Int) × Unit) → Int → ((List (Int × Int × Unit)) × Unit) → Option α) (k0 : Bool → Option α) (k1 : Option α) (v142 : Int) (v143 : List (Bool × (List Int) × (List Int) × Unit)) (v144 : Int) (v145 : (List (Int × Int × Unit)) × Unit) : Option α :=
  let x146 := ((v143.length : Nat) : Int)
  let x147 := decide (v144 < x146)
  bif x147 then
    bif (decide (v144 < (0 : Int))) then
      none
    else
      match v145.1[v144.toNat]? with
      | some x148 =>
        bif (decide (v144 < (0 : Int))) then
          none
        else
          match v143[v144.toNat]? with
          | some x149 =>
            spec_PairHas N v142 x148 x149
              (fun x665 =>
                let x666 := !x665
                bif x666 then
                  k0 false
                else
                  let x667 := (IntKind.i64.wrap (v144 + (1 : Int)))
                  next v142 v143 x667 v145)
          | none => none
      | none => none
  else
    k1
noncomputable def spec_BoxHas_L0.b {α : Type} (N n : Nat) (v142 : Int) (v143 : List (Bool × (List Int) × (List Int) × Unit)) (v144 : Int) (v145 : (List (Int × Int × Unit)) × Unit) (k0 : Bool → Option α) (k1 : Option α) : Option α :=
  Nat.rec (motive := fun _ => Int → List (Bool × (List Int) × (List Int) × Unit) → Int → ((List (Int × Int × Unit)) × Unit) → Option α) (fun _ _ _ _ => none) (fun _ next => spec_BoxHas_L0r N next k0 k1) n v142 v143 v144 v145
theorem spec_BoxHas_L0.ex : ∃ f : ((α : Type) → Nat → Nat → Int → List (Bool × (List Int) × (List Int) × Unit) → Int → ((List (Int × Int × Unit)) × Unit) → (Bool → Option α) → (Option α) → Option α), f = fun α => @spec_BoxHas_L0.b α := ⟨_, rfl⟩
noncomputable def spec_BoxHas_L0 {α : Type} : Nat → Nat → Int → List (Bool × (List Int) × (List Int) × Unit) → Int → ((List (Int × Int × Unit)) × Unit) → (Bool → Option α) → (Option α) → Option α := Classical.choose spec_BoxHas_L0.ex α
theorem spec_BoxHas_L0.eq : @spec_BoxHas_L0 = @spec_BoxHas_L0.b := funext fun α => congrFun (Classical.choose_spec spec_BoxHas_L0.ex) α
theorem spec_BoxHas_L0.zero {α : Type} (N : Nat) (v142 : Int) (v143 : List (Bool × (List Int) × (List Int) × Unit)) (v144 : Int) (v145 : (List (Int × Int × Unit)) × Unit) (k0 : Bool → Option α) (k1 : Option α) : spec_BoxHas_L0 N 0 v142 v143 v144 v145 k0 k1 = none := by rw [spec_BoxHas_L0.eq]; rfl
theorem spec_BoxHas_L0.succ {α : Type} (N n : Nat) (v142 : Int) (v143 : List (Bool × (List Int) × (List Int) × Unit)) (v144 : Int) (v145 : (List (Int × Int × Unit)) × Unit) (k0 : Bool → Option α) (k1 : Option α) : spec_BoxHas_L0 N (n + 1) v142 v143 v144 v145 k0 k1 = spec_BoxHas_L0r N (fun y0 y1 y2 y3 => spec_BoxHas_L0 N n y0 y1 y2 y3 k0 k1) k0 k1 v142 v143 v144 v145 := by rw [spec_BoxHas_L0.eq]; rfl
/-- loop.example/pinfold/spec.BoxHas -/
noncomputable def spec_BoxHas.b {α : Type} (N : Nat) (a95 : Int) (a96 : (List (Int × Int × Unit)) × Unit) (a97 : List (Bool × (List Int) × (List Int) × Unit)) (k0 : Bool → Option α) : Option α :=
  spec_BoxOk N a95 a96
    (fun x137 =>
      let x138 := !x137
      bif x138 then
        k0 false
      else
        let x139 := ((a97.length : Nat) : Int)
        let x140 := ((a96.1.length : Nat) : Int)
        let x141 := !(decide (x139 = x140))
        bif x141 then
          k0 false
        else
          spec_BoxHas_L0 N N a95 a97 (0 : Int) a96
            (fun x668 =>
              k0 x668)
            (
              k0 true))
theorem spec_BoxHas.ex : ∃ f : ((α : Type) → Nat → Int → ((List (Int × Int × Unit)) × Unit) → List (Bool × (List Int) × (List Int) × Unit) → (Bool → Option α) → Option α), f = fun α => @spec_BoxHas.b α := ⟨_, rfl⟩
noncomputable def spec_BoxHas {α : Type} : Nat → Int → ((List (Int × Int × Unit)) × Unit) → List (Bool × (List Int) × (List Int) × Unit) → (Bool → Option α) → Option α := Classical.choose spec_BoxHas.ex α
theorem spec_BoxHas.eq : @spec_BoxHas = @spec_BoxHas.b := funext fun α => congrFun (Classical.choose_spec spec_BoxHas.ex) α

/-- loop.example/pinfold/impl.in -/
noncomputable def impl_in.b {α : Type} (N : Nat) (a678 : Int) (a679 : Int) (a680 : Int) (k0 : Bool → Option α) : Option α :=
  let x681 := decide (a679 ≤ a678)
  bif x681 then
    let x682 := decide (a678 ≤ a680)
    k0 x682
  else
    k0 false
theorem impl_in.ex : ∃ f : ((α : Type) → Nat → Int → Int → Int → (Bool → Option α) → Option α), f = fun α => @impl_in.b α := ⟨_, rfl⟩
noncomputable def impl_in {α : Type} : Nat → Int → Int → Int → (Bool → Option α) → Option α := Classical.choose impl_in.ex α
theorem impl_in.eq : @impl_in = @impl_in.b := funext fun α => congrFun (Classical.choose_spec impl_in.ex) α

/-- loop.example/pinfold/impl.formatOf -/
noncomputable def impl_formatOf.b {α : Type} (N : Nat) (a700 : Int) (k0 : (Int × Int × Int × Int × Unit) → Bool → Option α) : Option α :=
  let x701 := (decide (a700 = (32 : Int)))
  bif x701 then
    k0 ((23 : Int), ((-149 : Int), ((127 : Int), ((2139095040 : Int), ())))) true
  else
    let x702 := (decide (a700 = (64 : Int)))
    bif x702 then
      k0 ((52 : Int), ((-1074 : Int), ((1023 : Int), ((9218868437227405312 : Int), ())))) true
    else
      k0 ((0 : Int), ((0 : Int), ((0 : Int), ((0 : Int), ())))) false
theorem impl_formatOf.ex : ∃ f : ((α : Type) → Nat → Int → ((Int × Int × Int × Int × Unit) → Bool → Option α) → Option α), f = fun α => @impl_formatOf.b α := ⟨_, rfl⟩
noncomputable def impl_formatOf {α : Type} : Nat → Int → ((Int × Int × Int × Int × Unit) → Bool → Option α) → Option α := Classical.choose impl_formatOf.ex α
theorem impl_formatOf.eq : @impl_formatOf = @impl_formatOf.b := funext fun α => congrFun (Classical.choose_spec impl_formatOf.ex) α

/-- loop.example/pinfold/impl.BitTop -/
noncomputable def impl_BitTop.b {α : Type} (N : Nat) (a699 : Int) (k0 : Int → Option α) : Option α :=
  impl_formatOf N a699
    (fun x703 _ =>
      k0 x703.2.2.2.1)
theorem impl_BitTop.ex : ∃ f : ((α : Type) → Nat → Int → (Int → Option α) → Option α), f = fun α => @impl_BitTop.b α := ⟨_, rfl⟩
noncomputable def impl_BitTop {α : Type} : Nat → Int → (Int → Option α) → Option α := Classical.choose impl_BitTop.ex α
theorem impl_BitTop.eq : @impl_BitTop = @impl_BitTop.b := funext fun α => congrFun (Classical.choose_spec impl_BitTop.ex) α

/-- loop.example/pinfold/impl.BitOk -/
noncomputable def impl_BitOk.b {α : Type} (N : Nat) (a706 : Int) (a707 : Int) (k0 : Bool → Option α) : Option α :=
  impl_formatOf N a706
    (fun x708 x709 =>
      bif x709 then
        let x710 := IntKind.i64.wrap (0 - x708.2.2.2.1)
        impl_in N a707 x710 x708.2.2.2.1
          (fun x711 =>
            k0 x711)
      else
        k0 false)
theorem impl_BitOk.ex : ∃ f : ((α : Type) → Nat → Int → Int → (Bool → Option α) → Option α), f = fun α => @impl_BitOk.b α := ⟨_, rfl⟩
noncomputable def impl_BitOk {α : Type} : Nat → Int → Int → (Bool → Option α) → Option α := Classical.choose impl_BitOk.ex α
theorem impl_BitOk.eq : @impl_BitOk = @impl_BitOk.b := funext fun α => congrFun (Classical.choose_spec impl_BitOk.ex) α

/-- loop.example/pinfold/impl.PairOk -/
noncomputable def impl_PairOk.b {α : Type} (N : Nat) (a697 : Int) (a698 : Int × Int × Unit) (k0 : Bool → Option α) : Option α :=
  impl_BitTop N a697
    (fun x705 =>
      impl_BitOk N a697 a698.1
        (fun x712 =>
          bif x712 then
            impl_BitOk N a697 a698.2.1
              (fun x713 =>
                bif x713 then
                  let x714 := decide (a698.1 ≤ a698.2.1)
                  bif x714 then
                    let x715 := !(decide (a698.1 = x705))
                    bif x715 then
                      let x716 := IntKind.i64.wrap (0 - x705)
                      let x717 := !(decide (a698.2.1 = x716))
                      k0 x717
                    else
                      k0 false
                  else
                    k0 false
                else
                  k0 false)
          else
            k0 false))
theorem impl_PairOk.ex : ∃ f : ((α : Type) → Nat → Int → (Int × Int × Unit) → (Bool → Option α) → Option α), f = fun α => @impl_PairOk.b α := ⟨_, rfl⟩
noncomputable def impl_PairOk {α : Type} : Nat → Int → (Int × Int × Unit) → (Bool → Option α) → Option α := Classical.choose impl_PairOk.ex α
theorem impl_PairOk.eq : @impl_PairOk = @impl_PairOk.b := funext fun α => congrFun (Classical.choose_spec impl_PairOk.ex) α

/-- loop.example/pinfold/impl.BoxOk$1 -/
noncomputable def impl_BoxOk_1.b {α : Type} (N : Nat) (a695 : Int × Int × Unit) (a696 : Int) (k0 : Bool → Option α) : Option α :=
  impl_PairOk N a696 a695
    (fun x718 =>
      let x719 := !x718
      k0 x719)
theorem impl_BoxOk_1.ex : ∃ f : ((α : Type) → Nat → (Int × Int × Unit) → Int → (Bool → Option α) → Option α), f = fun α => @impl_BoxOk_1.b α := ⟨_, rfl⟩
noncomputable def impl_BoxOk_1 {α : Type} : Nat → (Int × Int × Unit) → Int → (Bool → Option α) → Option α := Classical.choose impl_BoxOk_1.ex α
theorem impl_BoxOk_1.eq : @impl_BoxOk_1 = @impl_BoxOk_1.b := funext fun α => congrFun (Classical.choose_spec impl_BoxOk_1.ex) α

noncomputable def slices_IndexFunc_impl_Pair_impl_Pair__impl_BoxOk_1_L0r {α : Type} (N : Nat) (next : List (Int × Int × Unit) → Int → Int → Int → Option α) (k0 : Int → Option α) (k1 : Option α) (v689 : List (Int × Int × Unit)) (v690 : Int) (v691 : Int) (v692 : Int) : Option α :=
  let x693 := decide (v692 < v691)
  bif x693 then
    bif (decide (v692 < (0 : Int))) then
      none
    else
      match v689[v692.toNat]? with
      | some x694 =>
        impl_BoxOk_1 N x694 v690
          (fun x720 =>
            bif x720 then
              k0 v692
            else
              let x721 := (IntKind.i64.wrap (v692 + (1 : Int)))
              next v689 v690 v691 x721)
      | none => none
  else
    k1
noncomputable def slices_IndexFunc_impl_Pair_impl_Pair__impl_BoxOk_1_L0.b {α : Type} (N n : Nat) (v689 : List (Int × Int × Unit)) (v690 : Int) (v691 : Int) (v692 : Int) (k0 : Int → Option α) (k1 : Option α) : Option α :=
  Nat.rec (motive := fun _ => List (Int × Int × Unit) → Int → Int → Int → Option α) (fun _ _ _ _ => none) (fun _ next => slices_IndexFunc_impl_Pair_impl_Pair__impl_BoxOk_1_L0r N next k0 k1) n v689 v690 v691 v692
theorem slices_IndexFunc_impl_Pair_impl_Pair__impl_BoxOk_1_L0.ex : ∃ f : ((α : Type) → Nat → Nat → List (Int × Int × Unit) → Int → Int → Int → (Int → Option α) → (Option α) → Option α), f = fun α => @slices_IndexFunc_impl_Pair_impl_Pair__impl_BoxOk_1_L0.b α := ⟨_, rfl⟩
noncomputable def slices_IndexFunc_impl_Pair_impl_Pair__impl_BoxOk_1_L0 {α : Type} : Nat → Nat → List (Int × Int × Unit) → Int → Int → Int → (Int → Option α) → (Option α) → Option α := Classical.choose slices_IndexFunc_impl_Pair_impl_Pair__impl_BoxOk_1_L0.ex α
theorem slices_IndexFunc_impl_Pair_impl_Pair__impl_BoxOk_1_L0.eq : @slices_IndexFunc_impl_Pair_impl_Pair__impl_BoxOk_1_L0 = @slices_IndexFunc_impl_Pair_impl_Pair__impl_BoxOk_1_L0.b := funext fun α => congrFun (Classical.choose_spec slices_IndexFunc_impl_Pair_impl_Pair__impl_BoxOk_1_L0.ex) α
theorem slices_IndexFunc_impl_Pair_impl_Pair__impl_BoxOk_1_L0.zero {α : Type} (N : Nat) (v689 : List (Int × Int × Unit)) (v690 : Int) (v691 : Int) (v692 : Int) (k0 : Int → Option α) (k1 : Option α) : slices_IndexFunc_impl_Pair_impl_Pair__impl_BoxOk_1_L0 N 0 v689 v690 v691 v692 k0 k1 = none := by rw [slices_IndexFunc_impl_Pair_impl_Pair__impl_BoxOk_1_L0.eq]; rfl
theorem slices_IndexFunc_impl_Pair_impl_Pair__impl_BoxOk_1_L0.succ {α : Type} (N n : Nat) (v689 : List (Int × Int × Unit)) (v690 : Int) (v691 : Int) (v692 : Int) (k0 : Int → Option α) (k1 : Option α) : slices_IndexFunc_impl_Pair_impl_Pair__impl_BoxOk_1_L0 N (n + 1) v689 v690 v691 v692 k0 k1 = slices_IndexFunc_impl_Pair_impl_Pair__impl_BoxOk_1_L0r N (fun y0 y1 y2 y3 => slices_IndexFunc_impl_Pair_impl_Pair__impl_BoxOk_1_L0 N n y0 y1 y2 y3 k0 k1) k0 k1 v689 v690 v691 v692 := by rw [slices_IndexFunc_impl_Pair_impl_Pair__impl_BoxOk_1_L0.eq]; rfl
/-- slices.IndexFunc[[]loop.example/pinfold/impl.Pair,loop.example/pinfold/impl.Pair] -/
noncomputable def slices_IndexFunc_impl_Pair_impl_Pair__impl_BoxOk_1.b {α : Type} (N : Nat) (a686 : List (Int × Int × Unit)) (a687 : Int) (k0 : Int → Option α) : Option α :=
  let x688 := ((a686.length : Nat) : Int)
  slices_IndexFunc_impl_Pair_impl_Pair__impl_BoxOk_1_L0 N N a686 a687 x688 (0 : Int)
    (fun x722 =>
      k0 x722)
    (
      k0 (-1 : Int))
theorem slices_IndexFunc_impl_Pair_impl_Pair__impl_BoxOk_1.ex : ∃ f : ((α : Type) → Nat → List (Int × Int × Unit) → Int → (Int → Option α) → Option α), f = fun α => @slices_IndexFunc_impl_Pair_impl_Pair__impl_BoxOk_1.b α := ⟨_, rfl⟩
noncomputable def slices_IndexFunc_impl_Pair_impl_Pair__impl_BoxOk_1 {α : Type} : Nat → List (Int × Int × Unit) → Int → (Int → Option α) → Option α := Classical.choose slices_IndexFunc_impl_Pair_impl_Pair__impl_BoxOk_1.ex α
theorem slices_IndexFunc_impl_Pair_impl_Pair__impl_BoxOk_1.eq : @slices_IndexFunc_impl_Pair_impl_Pair__impl_BoxOk_1 = @slices_IndexFunc_impl_Pair_impl_Pair__impl_BoxOk_1.b := funext fun α => congrFun (Classical.choose_spec slices_IndexFunc_impl_Pair_impl_Pair__impl_BoxOk_1.ex) α

/-- slices.ContainsFunc[[]loop.example/pinfold/impl.Pair,loop.example/pinfold/impl.Pair] -/
noncomputable def slices_ContainsFunc_impl_Pair_impl_Pair__impl_BoxOk_1.b {α : Type} (N : Nat) (a684 : List (Int × Int × Unit)) (a685 : Int) (k0 : Bool → Option α) : Option α :=
  slices_IndexFunc_impl_Pair_impl_Pair__impl_BoxOk_1 N a684 a685
    (fun x723 =>
      let x724 := (decide ((0 : Int) ≤ x723))
      k0 x724)
theorem slices_ContainsFunc_impl_Pair_impl_Pair__impl_BoxOk_1.ex : ∃ f : ((α : Type) → Nat → List (Int × Int × Unit) → Int → (Bool → Option α) → Option α), f = fun α => @slices_ContainsFunc_impl_Pair_impl_Pair__impl_BoxOk_1.b α := ⟨_, rfl⟩
noncomputable def slices_ContainsFunc_impl_Pair_impl_Pair__impl_BoxOk_1 {α : Type} : Nat → List (Int × Int × Unit) → Int → (Bool → Option α) → Option α := Classical.choose slices_ContainsFunc_impl_Pair_impl_Pair__impl_BoxOk_1.ex α
theorem slices_ContainsFunc_impl_Pair_impl_Pair__impl_BoxOk_1.eq : @slices_ContainsFunc_impl_Pair_impl_Pair__impl_BoxOk_1 = @slices_ContainsFunc_impl_Pair_impl_Pair__impl_BoxOk_1.b := funext fun α => congrFun (Classical.choose_spec slices_ContainsFunc_impl_Pair_impl_Pair__impl_BoxOk_1.ex) α

/-- loop.example/pinfold/impl.BoxOk -/
noncomputable def impl_BoxOk.b {α : Type} (N : Nat) (a675 : Int) (a676 : (List (Int × Int × Unit)) × Unit) (k0 : Bool → Option α) : Option α :=
  let x677 := ((a676.1.length : Nat) : Int)
  impl_in N x677 (1 : Int) (6 : Int)
    (fun x683 =>
      bif x683 then
        slices_ContainsFunc_impl_Pair_impl_Pair__impl_BoxOk_1 N a676.1 a675
          (fun x725 =>
            let x726 := !x725
            k0 x726)
      else
        k0 false)
theorem impl_BoxOk.ex : ∃ f : ((α : Type) → Nat → Int → ((List (Int × Int × Unit)) × Unit) → (Bool → Option α) → Option α), f = fun α => @impl_BoxOk.b α := ⟨_, rfl⟩
noncomputable def impl_BoxOk {α : Type} : Nat → Int → ((List (Int × Int × Unit)) × Unit) → (Bool → Option α) → Option α := Classical.choose impl_BoxOk.ex α
theorem impl_BoxOk.eq : @impl_BoxOk = @impl_BoxOk.b := funext fun α => congrFun (Classical.choose_spec impl_BoxOk.ex) α

/-- loop.example/pinfold/impl.NatOk$1 -/
noncomputable def impl_NatOk_1.b {α : Type} (N : Nat) (a771 : Int) (k0 : Bool → Option α) : Option α :=
  impl_in N a771 (0 : Int) (65535 : Int)
    (fun x772 =>
      let x773 := !x772
      k0 x773)
theorem impl_NatOk_1.ex : ∃ f : ((α : Type) → Nat → Int → (Bool → Option α) → Option α), f = fun α => @impl_NatOk_1.b α := ⟨_, rfl⟩
noncomputable def impl_NatOk_1 {α : Type} : Nat → Int → (Bool → Option α) → Option α := Classical.choose impl_NatOk_1.ex α
theorem impl_NatOk_1.eq : @impl_NatOk_1 = @impl_NatOk_1.b := funext fun α => congrFun (Classical.choose_spec impl_NatOk_1.ex) α

noncomputable def slices_IndexFunc_int_int__impl_NatOk_1_L0r {α : Type} (N : Nat) (next : List Int → Int → Int → Option α) (k0 : Int → Option α) (k1 : Option α) (v766 : List Int) (v767 : Int) (v768 : Int) : Option α :=
  let x769 := decide (v768 < v767)
  bif x769 then
    bif (decide (v768 < (0 : Int))) then
      none
    else
      match v766[v768.toNat]? with
      | some x770 =>
        impl_NatOk_1 N x770
          (fun x774 =>
            bif x774 then
              k0 v768
            else
              let x775 := (IntKind.i64.wrap (v768 + (1 : Int)))
              next v766 v767 x775)
      | none => none
  else
    k1
noncomputable def slices_IndexFunc_int_int__impl_NatOk_1_L0.b {α : Type} (N n : Nat) (v766 : List Int) (v767 : Int) (v768 : Int) (k0 : Int → Option α) (k1 : Option α) : Option α :=
  Nat.rec (motive := fun _ => List Int → Int → Int → Option α) (fun _ _ _ => none) (fun _ next => slices_IndexFunc_int_int__impl_NatOk_1_L0r N next k0 k1) n v766 v767 v768
theorem slices_IndexFunc_int_int__impl_NatOk_1_L0.ex : ∃ f : ((α : Type) → Nat → Nat → List Int → Int → Int → (Int → Option α) → (Option α) → Option α), f = fun α => @slices_IndexFunc_int_int__impl_NatOk_1_L0.b α := ⟨_, rfl⟩
noncomputable def slices_IndexFunc_int_int__impl_NatOk_1_L0 {α : Type} : Nat → Nat → List Int → Int → Int → (Int → Option α) → (Option α) → Option α := Classical.choose slices_IndexFunc_int_int__impl_NatOk_1_L0.ex α
theorem slices_IndexFunc_int_int__impl_NatOk_1_L0.eq : @slices_IndexFunc_int_int__impl_NatOk_1_L0 = @slices_IndexFunc_int_int__impl_NatOk_1_L0.b := funext fun α => congrFun (Classical.choose_spec slices_IndexFunc_int_int__impl_NatOk_1_L0.ex) α
theorem slices_IndexFunc_int_int__impl_NatOk_1_L0.zero {α : Type} (N : Nat) (v766 : List Int) (v767 : Int) (v768 : Int) (k0 : Int → Option α) (k1 : Option α) : slices_IndexFunc_int_int__impl_NatOk_1_L0 N 0 v766 v767 v768 k0 k1 = none := by rw [slices_IndexFunc_int_int__impl_NatOk_1_L0.eq]; rfl
theorem slices_IndexFunc_int_int__impl_NatOk_1_L0.succ {α : Type} (N n : Nat) (v766 : List Int) (v767 : Int) (v768 : Int) (k0 : Int → Option α) (k1 : Option α) : slices_IndexFunc_int_int__impl_NatOk_1_L0 N (n + 1) v766 v767 v768 k0 k1 = slices_IndexFunc_int_int__impl_NatOk_1_L0r N (fun y0 y1 y2 => slices_IndexFunc_int_int__impl_NatOk_1_L0 N n y0 y1 y2 k0 k1) k0 k1 v766 v767 v768 := by rw [slices_IndexFunc_int_int__impl_NatOk_1_L0.eq]; rfl
/-- slices.IndexFunc[[]int,int] -/
noncomputable def slices_IndexFunc_int_int__impl_NatOk_1.b {α : Type} (N : Nat) (a764 : List Int) (k0 : Int → Option α) : Option α :=
  let x765 := ((a764.length : Nat) : Int)
  slices_IndexFunc_int_int__impl_NatOk_1_L0 N N a764 x765 (0 : Int)
    (fun x776 =>
      k0 x776)
    (
      k0 (-1 : Int))
theorem slices_IndexFunc_int_int__impl_NatOk_1.ex : ∃ f : ((α : Type) → Nat → List Int → (Int → Option α) → Option α), f = fun α => @slices_IndexFunc_int_int__impl_NatOk_1.b α := ⟨_, rfl⟩
noncomputable def slices_IndexFunc_int_int__impl_NatOk_1 {α : Type} : Nat → List Int → (Int → Option α) → Option α := Classical.choose slices_IndexFunc_int_int__impl_NatOk_1.ex α
theorem slices_IndexFunc_int_int__impl_NatOk_1.eq : @slices_IndexFunc_int_int__impl_NatOk_1 = @slices_IndexFunc_int_int__impl_NatOk_1.b := funext fun α => congrFun (Classical.choose_spec slices_IndexFunc_int_int__impl_NatOk_1.ex) α

/-- slices.ContainsFunc[[]int,int] -/
noncomputable def slices_ContainsFunc_int_int__impl_NatOk_1.b {α : Type} (N : Nat) (a763 : List Int) (k0 : Bool → Option α) : Option α :=
  slices_IndexFunc_int_int__impl_NatOk_1 N a763
    (fun x777 =>
      let x778 := (decide ((0 : Int) ≤ x777))
      k0 x778)
theorem slices_ContainsFunc_int_int__impl_NatOk_1.ex : ∃ f : ((α : Type) → Nat → List Int → (Bool → Option α) → Option α), f = fun α => @slices_ContainsFunc_int_int__impl_NatOk_1.b α := ⟨_, rfl⟩
noncomputable def slices_ContainsFunc_int_int__impl_NatOk_1 {α : Type} : Nat → List Int → (Bool → Option α) → Option α := Classical.choose slices_ContainsFunc_int_int__impl_NatOk_1.ex α
theorem slices_ContainsFunc_int_int__impl_NatOk_1.eq : @slices_ContainsFunc_int_int__impl_NatOk_1 = @slices_ContainsFunc_int_int__impl_NatOk_1.b := funext fun α => congrFun (Classical.choose_spec slices_ContainsFunc_int_int__impl_NatOk_1.ex) α

/-- loop.example/pinfold/impl.NatOk -/
noncomputable def impl_NatOk.b {α : Type} (N : Nat) (a758 : List Int) (k0 : Bool → Option α) : Option α :=
  let x759 := ((a758.length : Nat) : Int)
  let x760 := (decide (x759 ≤ (256 : Int)))
  bif x760 then
    let x761 := ((a758.length : Nat) : Int)
    let x762 := (decide (x761 = (0 : Int)))
    bif x762 then
      slices_ContainsFunc_int_int__impl_NatOk_1 N a758
        (fun x779 =>
          let x780 := !x779
          k0 x780)
    else
      let x781 := ((a758.length : Nat) : Int)
      let x782 := (IntKind.i64.wrap (x781 - (1 : Int)))
      bif (decide (x782 < (0 : Int))) then
        none
      else
        match a758[x782.toNat]? with
        | some x783 =>
          let x784 := (!(decide (x783 = (0 : Int))))
          bif x784 then
            slices_ContainsFunc_int_int__impl_NatOk_1 N a758
              (fun x785 =>
                let x786 := !x785
                k0 x786)
          else
            k0 false
        | none => none
  else
    k0 false
theorem impl_NatOk.ex : ∃ f : ((α : Type) → Nat → List Int → (Bool → Option α) → Option α), f = fun α => @impl_NatOk.b α := ⟨_, rfl⟩
noncomputable def impl_NatOk {α : Type} : Nat → List Int → (Bool → Option α) → Option α := Classical.choose impl_NatOk.ex α
theorem impl_NatOk.eq : @impl_NatOk = @impl_NatOk.b := funext fun α => congrFun (Classical.choose_spec impl_NatOk.ex) α

/-- loop.example/pinfold/impl.nats$1 -/
noncomputable def impl_nats_1.b {α : Type} (N : Nat) (a757 : List Int) (k0 : Bool → Option α) : Option α :=
  impl_NatOk N a757
    (fun x787 =>
      let x788 := !x787
      k0 x788)
theorem impl_nats_1.ex : ∃ f : ((α : Type) → Nat → List Int → (Bool → Option α) → Option α), f = fun α => @impl_nats_1.b α := ⟨_, rfl⟩
noncomputable def impl_nats_1 {α : Type} : Nat → List Int → (Bool → Option α) → Option α := Classical.choose impl_nats_1.ex α
theorem impl_nats_1.eq : @impl_nats_1 = @impl_nats_1.b := funext fun α => congrFun (Classical.choose_spec impl_nats_1.ex) α

noncomputable def slices_IndexFunc_int_int__impl_nats_1_L0r {α : Type} (N : Nat) (next : List (List Int) → Int → Int → Option α) (k0 : Int → Option α) (k1 : Option α) (v752 : List (List Int)) (v753 : Int) (v754 : Int) : Option α :=
  let x755 := decide (v754 < v753)
  bif x755 then
    bif (decide (v754 < (0 : Int))) then
      none
    else
      match v752[v754.toNat]? with
      | some x756 =>
        impl_nats_1 N x756
          (fun x789 =>
            bif x789 then
              k0 v754
            else
              let x790 := (IntKind.i64.wrap (v754 + (1 : Int)))
              next v752 v753 x790)
      | none => none
  else
    k1
noncomputable def slices_IndexFunc_int_int__impl_nats_1_L0.b {α : Type} (N n : Nat) (v752 : List (List Int)) (v753 : Int) (v754 : Int) (k0 : Int → Option α) (k1 : Option α) : Option α :=
  Nat.rec (motive := fun _ => List (List Int) → Int → Int → Option α) (fun _ _ _ => none) (fun _ next => slices_IndexFunc_int_int__impl_nats_1_L0r N next k0 k1) n v752 v753 v754
theorem slices_IndexFunc_int_int__impl_nats_1_L0.ex : ∃ f : ((α : Type) → Nat → Nat → List (List Int) → Int → Int → (Int → Option α) → (Option α) → Option α), f = fun α => @slices_IndexFunc_int_int__impl_nats_1_L0.b α := ⟨_, rfl⟩
noncomputable def slices_IndexFunc_int_int__impl_nats_1_L0 {α : Type} : Nat → Nat → List (List Int) → Int → Int → (Int → Option α) → (Option α) → Option α := Classical.choose slices_IndexFunc_int_int__impl_nats_1_L0.ex α
theorem slices_IndexFunc_int_int__impl_nats_1_L0.eq : @slices_IndexFunc_int_int__impl_nats_1_L0 = @slices_IndexFunc_int_int__impl_nats_1_L0.b := funext fun α => congrFun (Classical.choose_spec slices_IndexFunc_int_int__impl_nats_1_L0.ex) α
theorem slices_IndexFunc_int_int__impl_nats_1_L0.zero {α : Type} (N : Nat) (v752 : List (List Int)) (v753 : Int) (v754 : Int) (k0 : Int → Option α) (k1 : Option α) : slices_IndexFunc_int_int__impl_nats_1_L0 N 0 v752 v753 v754 k0 k1 = none := by rw [slices_IndexFunc_int_int__impl_nats_1_L0.eq]; rfl
theorem slices_IndexFunc_int_int__impl_nats_1_L0.succ {α : Type} (N n : Nat) (v752 : List (List Int)) (v753 : Int) (v754 : Int) (k0 : Int → Option α) (k1 : Option α) : slices_IndexFunc_int_int__impl_nats_1_L0 N (n + 1) v752 v753 v754 k0 k1 = slices_IndexFunc_int_int__impl_nats_1_L0r N (fun y0 y1 y2 => slices_IndexFunc_int_int__impl_nats_1_L0 N n y0 y1 y2 k0 k1) k0 k1 v752 v753 v754 := by rw [slices_IndexFunc_int_int__impl_nats_1_L0.eq]; rfl
/-- slices.IndexFunc[[][]int,[]int] -/
noncomputable def slices_IndexFunc_int_int__impl_nats_1.b {α : Type} (N : Nat) (a750 : List (List Int)) (k0 : Int → Option α) : Option α :=
  let x751 := ((a750.length : Nat) : Int)
  slices_IndexFunc_int_int__impl_nats_1_L0 N N a750 x751 (0 : Int)
    (fun x791 =>
      k0 x791)
    (
      k0 (-1 : Int))
theorem slices_IndexFunc_int_int__impl_nats_1.ex : ∃ f : ((α : Type) → Nat → List (List Int) → (Int → Option α) → Option α), f = fun α => @slices_IndexFunc_int_int__impl_nats_1.b α := ⟨_, rfl⟩
noncomputable def slices_IndexFunc_int_int__impl_nats_1 {α : Type} : Nat → List (List Int) → (Int → Option α) → Option α := Classical.choose slices_IndexFunc_int_int__impl_nats_1.ex α
theorem slices_IndexFunc_int_int__impl_nats_1.eq : @slices_IndexFunc_int_int__impl_nats_1 = @slices_IndexFunc_int_int__impl_nats_1.b := funext fun α => congrFun (Classical.choose_spec slices_IndexFunc_int_int__impl_nats_1.ex) α

/-- slices.ContainsFunc[[][]int,[]int] -/
noncomputable def slices_ContainsFunc_int_int__impl_nats_1.b {α : Type} (N : Nat) (a749 : List (List Int)) (k0 : Bool → Option α) : Option α :=
  slices_IndexFunc_int_int__impl_nats_1 N a749
    (fun x792 =>
      let x793 := (decide ((0 : Int) ≤ x792))
      k0 x793)
theorem slices_ContainsFunc_int_int__impl_nats_1.ex : ∃ f : ((α : Type) → Nat → List (List Int) → (Bool → Option α) → Option α), f = fun α => @slices_ContainsFunc_int_int__impl_nats_1.b α := ⟨_, rfl⟩
noncomputable def slices_ContainsFunc_int_int__impl_nats_1 {α : Type} : Nat → List (List Int) → (Bool → Option α) → Option α := Classical.choose slices_ContainsFunc_int_int__impl_nats_1.ex α
theorem slices_ContainsFunc_int_int__impl_nats_1.eq : @slices_ContainsFunc_int_int__impl_nats_1 = @slices_ContainsFunc_int_int__impl_nats_1.b := funext fun α => congrFun (Classical.choose_spec slices_ContainsFunc_int_int__impl_nats_1.ex) α

/-- loop.example/pinfold/impl.nats -/
noncomputable def impl_nats.b {α : Type} (N : Nat) (a748 : List (List Int)) (k0 : Bool → Option α) : Option α :=
  slices_ContainsFunc_int_int__impl_nats_1 N a748
    (fun x794 =>
      let x795 := !x794
      k0 x795)
theorem impl_nats.ex : ∃ f : ((α : Type) → Nat → List (List Int) → (Bool → Option α) → Option α), f = fun α => @impl_nats.b α := ⟨_, rfl⟩
noncomputable def impl_nats {α : Type} : Nat → List (List Int) → (Bool → Option α) → Option α := Classical.choose impl_nats.ex α
theorem impl_nats.eq : @impl_nats = @impl_nats.b := funext fun α => congrFun (Classical.choose_spec impl_nats.ex) α

noncomputable def impl_natCmp_L0r {α : Type} (N : Nat) (next : List Int → List Int → Int → Option α) (k0 : Int → Option α) (k1 : Option α) (v890 : List Int) (v891 : List Int) (v892 : Int) : Option α :=
  let x893 := (decide ((0 : Int) ≤ v892))
  bif x893 then
    bif (decide (v892 < (0 : Int))) then
      none
    else
      match v890[v892.toNat]? with
      | some x894 =>
        bif (decide (v892 < (0 : Int))) then
          none
        else
          match v891[v892.toNat]? with
          | some x895 =>
            let x896 := !(decide (x894 = x895))
            bif x896 then
              bif (decide (v892 < (0 : Int))) then
                none
              else
                match v890[v892.toNat]? with
                | some x897 =>
                  bif (decide (v892 < (0 : Int))) then
                    none
                  else
                    match v891[v892.toNat]? with
                    | some x898 =>
                      let x899 := IntKind.i64.wrap (x897 - x898)
                      let x900 := (minI (1 : Int) x899)
                      let x901 := (maxI (-1 : Int) x900)
                      k0 x901
                    | none => none
                | none => none
            else
              let x902 := (IntKind.i64.wrap (v892 - (1 : Int)))
              next v890 v891 x902
          | none => none
      | none => none
  else
    k1
noncomputable def impl_natCmp_L0.b {α : Type} (N n : Nat) (v890 : List Int) (v891 : List Int) (v892 : Int) (k0 : Int → Option α) (k1 : Option α) : Option α :=
  Nat.rec (motive := fun _ => List Int → List Int → Int → Option α) (fun _ _ _ => none) (fun _ next => impl_natCmp_L0r N next k0 k1) n v890 v891 v892
theorem impl_natCmp_L0.ex : ∃ f : ((α : Type) → Nat → Nat → List Int → List Int → Int → (Int → Option α) → (Option α) → Option α), f = fun α => @impl_natCmp_L0.b α := ⟨_, rfl⟩
noncomputable def impl_natCmp_L0 {α : Type} : Nat → Nat → List Int → List Int → Int → (Int → Option α) → (Option α) → Option α := Classical.choose impl_natCmp_L0.ex α
theorem impl_natCmp_L0.eq : @impl_natCmp_L0 = @impl_natCmp_L0.b := funext fun α => congrFun (Classical.choose_spec impl_natCmp_L0.ex) α
theorem impl_natCmp_L0.zero {α : Type} (N : Nat) (v890 : List Int) (v891 : List Int) (v892 : Int) (k0 : Int → Option α) (k1 : Option α) : impl_natCmp_L0 N 0 v890 v891 v892 k0 k1 = none := by rw [impl_natCmp_L0.eq]; rfl
theorem impl_natCmp_L0.succ {α : Type} (N n : Nat) (v890 : List Int) (v891 : List Int) (v892 : Int) (k0 : Int → Option α) (k1 : Option α) : impl_natCmp_L0 N (n + 1) v890 v891 v892 k0 k1 = impl_natCmp_L0r N (fun y0 y1 y2 => impl_natCmp_L0 N n y0 y1 y2 k0 k1) k0 k1 v890 v891 v892 := by rw [impl_natCmp_L0.eq]; rfl
/-- loop.example/pinfold/impl.natCmp -/
noncomputable def impl_natCmp.b {α : Type} (N : Nat) (a878 : List Int) (a879 : List Int) (k0 : Int → Option α) : Option α :=
  let x880 := ((a878.length : Nat) : Int)
  let x881 := ((a879.length : Nat) : Int)
  let x882 := !(decide (x880 = x881))
  bif x882 then
    let x883 := ((a878.length : Nat) : Int)
    let x884 := ((a879.length : Nat) : Int)
    let x885 := IntKind.i64.wrap (x883 - x884)
    let x886 := (minI (1 : Int) x885)
    let x887 := (maxI (-1 : Int) x886)
    k0 x887
  else
    let x888 := ((a878.length : Nat) : Int)
    let x889 := (IntKind.i64.wrap (x888 - (1 : Int)))
    impl_natCmp_L0 N N a878 a879 x889
      (fun x903 =>
        k0 x903)
      (
        k0 (0 : Int))
theorem impl_natCmp.ex : ∃ f : ((α : Type) → Nat → List Int → List Int → (Int → Option α) → Option α), f = fun α => @impl_natCmp.b α := ⟨_, rfl⟩
noncomputable def impl_natCmp {α : Type} : Nat → List Int → List Int → (Int → Option α) → Option α := Classical.choose impl_natCmp.ex α
theorem impl_natCmp.eq : @impl_natCmp = @impl_natCmp.b := funext fun α => congrFun (Classical.choose_spec impl_natCmp.ex) α

noncomputable def impl_trim_L0r {α : Type} (N : Nat) (next : List Int → Option α) (k0 : List Int → Option α) (v931 : List Int) : Option α :=
  let x932 := ((v931.length : Nat) : Int)
  let x933 := (decide ((0 : Int) < x932))
  bif x933 then
    let x934 := ((v931.length : Nat) : Int)
    let x935 := (IntKind.i64.wrap (x934 - (1 : Int)))
    bif (decide (x935 < (0 : Int))) then
      none
    else
      match v931[x935.toNat]? with
      | some x936 =>
        let x937 := (decide (x936 = (0 : Int)))
        bif x937 then
          let x938 := ((v931.length : Nat) : Int)
          let x939 := (IntKind.i64.wrap (x938 - (1 : Int)))
          bif (decide ((0 : Int) ≤ x939)) then
            bif (decide (x939 ≤ ((v931.length : Nat) : Int))) then
              let x940 := v931.take x939.toNat
              next x940
            else
              none
          else
            none
        else
          k0 v931
      | none => none
  else
    k0 v931
noncomputable def impl_trim_L0.b {α : Type} (N n : Nat) (v931 : List Int) (k0 : List Int → Option α) : Option α :=
  Nat.rec (motive := fun _ => List Int → Option α) (fun _ => none) (fun _ next => impl_trim_L0r N next k0) n v931
theorem impl_trim_L0.ex : ∃ f : ((α : Type) → Nat → Nat → List Int → (List Int → Option α) → Option α), f = fun α => @impl_trim_L0.b α := ⟨_, rfl⟩
noncomputable def impl_trim_L0 {α : Type} : Nat → Nat → List Int → (List Int → Option α) → Option α := Classical.choose impl_trim_L0.ex α
theorem impl_trim_L0.eq : @impl_trim_L0 = @impl_trim_L0.b := funext fun α => congrFun (Classical.choose_spec impl_trim_L0.ex) α
theorem impl_trim_L0.zero {α : Type} (N : Nat) (v931 : List Int) (k0 : List Int → Option α) : impl_trim_L0 N 0 v931 k0 = none := by rw [impl_trim_L0.eq]; rfl
theorem impl_trim_L0.succ {α : Type} (N n : Nat) (v931 : List Int) (k0 : List Int → Option α) : impl_trim_L0 N (n + 1) v931 k0 = impl_trim_L0r N (fun y0 => impl_trim_L0 N n y0 k0) k0 v931 := by rw [impl_trim_L0.eq]; rfl
/-- loop.example/pinfold/impl.trim -/
noncomputable def impl_trim.b {α : Type} (N : Nat) (a930 : List Int) (k0 : List Int → Option α) : Option α :=
  impl_trim_L0 N N a930
    (fun x941 =>
      k0 x941)
theorem impl_trim.ex : ∃ f : ((α : Type) → Nat → List Int → (List Int → Option α) → Option α), f = fun α => @impl_trim.b α := ⟨_, rfl⟩
noncomputable def impl_trim {α : Type} : Nat → List Int → (List Int → Option α) → Option α := Classical.choose impl_trim.ex α
theorem impl_trim.eq : @impl_trim = @impl_trim.b := funext fun α => congrFun (Classical.choose_spec impl_trim.ex) α

noncomputable def math_bits_Len64_J1.b {α : Type} (N : Nat) (v951 : Int) (v952 : Int) (k0 : Int → Int → Option α) : Option α :=
  let x953 := (decide ((4294967296 : Int) ≤ v951))
  bif x953 then
    let x954 := (shrI .u64 v951 (32 : Int))
    k0 x954 (32 : Int)
  else
    k0 v951 v952
theorem math_bits_Len64_J1.ex : ∃ f : ((α : Type) → Nat → Int → Int → (Int → Int → Option α) → Option α), f = fun α => @math_bits_Len64_J1.b α := ⟨_, rfl⟩
noncomputable def math_bits_Len64_J1 {α : Type} : Nat → Int → Int → (Int → Int → Option α) → Option α := Classical.choose math_bits_Len64_J1.ex α
theorem math_bits_Len64_J1.eq : @math_bits_Len64_J1 = @math_bits_Len64_J1.b := funext fun α => congrFun (Classical.choose_spec math_bits_Len64_J1.ex) α
noncomputable def math_bits_Len64_J4.b {α : Type} (N : Nat) (v957 : Int) (v958 : Int) (k0 : Int → Int → Option α) : Option α :=
  let x959 := (decide ((65536 : Int) ≤ v957))
  bif x959 then
    let x960 := (shrI .u64 v957 (16 : Int))
    let x961 := (IntKind.i64.wrap (v958 + (16 : Int)))
    k0 x960 x961
  else
    k0 v957 v958
theorem math_bits_Len64_J4.ex : ∃ f : ((α : Type) → Nat → Int → Int → (Int → Int → Option α) → Option α), f = fun α => @math_bits_Len64_J4.b α := ⟨_, rfl⟩
noncomputable def math_bits_Len64_J4 {α : Type} : Nat → Int → Int → (Int → Int → Option α) → Option α := Classical.choose math_bits_Len64_J4.ex α
theorem math_bits_Len64_J4.eq : @math_bits_Len64_J4 = @math_bits_Len64_J4.b := funext fun α => congrFun (Classical.choose_spec math_bits_Len64_J4.ex) α
noncomputable def math_bits_Len64_J7.b {α : Type} (N : Nat) (v964 : Int) (v965 : Int) (k0 : Int → Int → Option α) : Option α :=
  let x966 := (decide ((256 : Int) ≤ v964))
  bif x966 then
    let x967 := (shrI .u64 v964 (8 : Int))
    let x968 := (IntKind.i64.wrap (v965 + (8 : Int)))
    k0 x967 x968
  else
    k0 v964 v965
theorem math_bits_Len64_J7.ex : ∃ f : ((α : Type) → Nat → Int → Int → (Int → Int → Option α) → Option α), f = fun α => @math_bits_Len64_J7.b α := ⟨_, rfl⟩
noncomputable def math_bits_Len64_J7 {α : Type} : Nat → Int → Int → (Int → Int → Option α) → Option α := Classical.choose math_bits_Len64_J7.ex α
theorem math_bits_Len64_J7.eq : @math_bits_Len64_J7 = @math_bits_Len64_J7.b := funext fun α => congrFun (Classical.choose_spec math_bits_Len64_J7.ex) α
/-- math/bits.Len64 -/
noncomputable def math_bits_Len64.b {α : Type} (N : Nat) (a950 : Int) (k0 : Int → Option α) : Option α :=
  math_bits_Len64_J1 N a950 (0 : Int)
    (fun x955 x956 =>
      math_bits_Len64_J4 N x955 x956
        (fun x962 x963 =>
          math_bits_Len64_J7 N x962 x963
            (fun x969 x970 =>
              let x971 := IntKind.u8.wrap x969
              bif (decide (x971 < (0 : Int))) then
                none
              else
                match ((⟨#[0, 1, 2, 2, 3, 3, 3, 3, 4, 4, 4, 4, 4, 4, 4, 4, 5, 5, 5, 5, 5, 5, 5, 5, 5, 5, 5, 5, 5, 5, 5, 5, 6, 6, 6, 6, 6, 6, 6, 6, 6, 6, 6, 6, 6, 6, 6, 6, 6, 6, 6, 6, 6, 6, 6, 6, 6, 6, 6, 6, 6, 6, 6, 6, 7, 7, 7, 7, 7, 7, 7, 7, 7, 7, 7, 7, 7, 7, 7, 7, 7, 7, 7, 7, 7, 7, 7, 7, 7, 7, 7, 7, 7, 7, 7, 7, 7, 7, 7, 7, 7, 7, 7, 7, 7, 7, 7, 7, 7, 7, 7, 7, 7, 7, 7, 7, 7, 7, 7, 7, 7, 7, 7, 7, 7, 7, 7, 7, 8, 8, 8, 8, 8, 8, 8, 8, 8, 8, 8, 8, 8, 8, 8, 8, 8, 8, 8, 8, 8, 8, 8, 8, 8, 8, 8, 8, 8, 8, 8, 8, 8, 8, 8, 8, 8, 8, 8, 8, 8, 8, 8, 8, 8, 8, 8, 8, 8, 8, 8, 8, 8, 8, 8, 8, 8, 8, 8, 8, 8, 8, 8, 8, 8, 8, 8, 8, 8, 8, 8, 8, 8, 8, 8, 8, 8, 8, 8, 8, 8, 8, 8, 8, 8, 8, 8, 8, 8, 8, 8, 8, 8, 8, 8, 8, 8, 8, 8, 8, 8, 8, 8, 8, 8, 8, 8, 8, 8, 8, 8, 8, 8, 8, 8, 8, 8, 8, 8, 8, 8, 8, 8, 8, 8, 8, 8, 8]⟩ : ByteArray)[x971.toNat]? : Option UInt8) with
                | some x972 =>
                  let x973 := ((x972.toNat : Nat) : Int)
                  let x974 := IntKind.i64.wrap x973
                  let x975 := IntKind.i64.wrap (x970 + x974)
                  k0 x975
                | none => none)))
theorem math_bits_Len64.ex : ∃ f : ((α : Type) → Nat → Int → (Int → Option α) → Option α), f = fun α => @math_bits_Len64.b α := ⟨_, rfl⟩
noncomputable def math_bits_Len64 {α : Type} : Nat → Int → (Int → Option α) → Option α := Classical.choose math_bits_Len64.ex α
theorem math_bits_Len64.eq : @math_bits_Len64 = @math_bits_Len64.b := funext fun α => congrFun (Classical.choose_spec math_bits_Len64.ex) α

/-- math/bits.Len -/
noncomputable def math_bits_Len.b {α : Type} (N : Nat) (a949 : Int) (k0 : Int → Option α) : Option α :=
  math_bits_Len64 N a949
    (fun x976 =>
      k0 x976)
theorem math_bits_Len.ex : ∃ f : ((α : Type) → Nat → Int → (Int → Option α) → Option α), f = fun α => @math_bits_Len.b α := ⟨_, rfl⟩
noncomputable def math_bits_Len {α : Type} : Nat → Int → (Int → Option α) → Option α := Classical.choose math_bits_Len.ex α
theorem math_bits_Len.eq : @math_bits_Len = @math_bits_Len.b := funext fun α => congrFun (Classical.choose_spec math_bits_Len.ex) α

/-- slices.Clone[[]int,int] -/
noncomputable def slices_Clone_int_int {α : Type} (N : Nat) (a1 : List Int) (k0 : List Int → Option α) : Option α :=
  bif decide (([] : List Int).length + a1.length ≤ 8796093022208) then k0 a1 else none

noncomputable def impl_natShift_J10.b {α : Type} (N : Nat) (v1055 : List Int) (v1056 : Int) (v1057 : Int) (v1058 : Int) (v1059 : Int) (v1060 : Int) (v1061 : List Int) (k0 : List Int → Int → Int → Int → Int → List Int → Option α) : Option α :=
  let x1062 := IntKind.i64.wrap (v1056 + v1058)
  let x1063 := (IntKind.i64.wrap (x1062 + (1 : Int)))
  let x1064 := ((v1055.length : Nat) : Int)
  let x1065 := decide (x1063 < x1064)
  bif x1065 then
    bif (decide (v1058 < (0 : Int))) then
      none
    else
      bif decide (v1058.toNat < v1061.length) then
        match v1061[v1058.toNat]? with
        | some x1066 =>
          let x1067 := IntKind.i64.wrap (v1056 + v1058)
          let x1068 := (IntKind.i64.wrap (x1067 + (1 : Int)))
          bif (decide (x1068 < (0 : Int))) then
            none
          else
            match v1055[x1068.toNat]? with
            | some x1069 =>
              let x1070 := (IntKind.i64.wrap ((16 : Int) - v1057))
              bif (decide (x1070 < (0 : Int))) then
                none
              else
                let x1071 := shlI .i64 x1069 x1070
                let x1072 := (bitI .and .i64 x1071 (65535 : Int))
                let x1073 := bitI .or .i64 x1066 x1072
                bif (decide (v1058 < (0 : Int))) then
                  none
                else
                  bif decide (v1058.toNat < v1061.length) then
                    match v1061[v1058.toNat]? with
                    | some x1074 =>
                      let x1075 := v1061.set v1058.toNat x1073
                      k0 v1055 v1056 v1057 v1059 v1060 x1075
                    | none => none
                  else
                    none
            | none => none
        | none => none
      else
        none
  else
    k0 v1055 v1056 v1057 v1059 v1060 v1061
theorem impl_natShift_J10.ex : ∃ f : ((α : Type) → Nat → List Int → Int → Int → Int → Int → Int → List Int → (List Int → Int → Int → Int → Int → List Int → Option α) → Option α), f = fun α => @impl_natShift_J10.b α := ⟨_, rfl⟩
noncomputable def impl_natShift_J10 {α : Type} : Nat → List Int → Int → Int → Int → Int → Int → List Int → (List Int → Int → Int → Int → Int → List Int → Option α) → Option α := Classical.choose impl_natShift_J10.ex α
theorem impl_natShift_J10.eq : @impl_natShift_J10 = @impl_natShift_J10.b := funext fun α => congrFun (Classical.choose_spec impl_natShift_J10.ex) α
noncomputable def impl_natShift_L0r {α : Type} (N : Nat) (next : List Int → Int → Int → Int → Int → List Int → Option α) (k0 : List Int → Option α) (v1044 : List Int) (v1045 : Int) (v1046 : Int) (v1047 : Int) (v1048 : Int) (v1049 : List Int) : Option α :=
  let x1050 := decide (v1048 < v1047)
  bif x1050 then
    bif (decide (v1048 < (0 : Int))) then
      none
    else
      bif decide (v1048.toNat < v1049.length) then
        match v1049[v1048.toNat]? with
        | some x1051 =>
          bif (decide (v1046 < (0 : Int))) then
            none
          else
            let x1052 := shrI .i64 x1051 v1046
            bif (decide (v1048 < (0 : Int))) then
              none
            else
              bif decide (v1048.toNat < v1049.length) then
                match v1049[v1048.toNat]? with
                | some x1053 =>
                  let x1054 := v1049.set v1048.toNat x1052
                  impl_natShift_J10 N v1044 v1045 v1046 v1048 v1047 v1048 x1054
                    (fun x1076 x1077 x1078 x1079 x1080 x1081 =>
                      let x1082 := (IntKind.i64.wrap (x1080 + (1 : Int)))
                      next x1076 x1077 x1078 x1079 x1082 x1081)
                | none => none
              else
                none
        | none => none
      else
        none
  else
    k0 v1049
noncomputable def impl_natShift_L0.b {α : Type} (N n : Nat) (v1044 : List Int) (v1045 : Int) (v1046 : Int) (v1047 : Int) (v1048 : Int) (v1049 : List Int) (k0 : List Int → Option α) : Option α :=
  Nat.rec (motive := fun _ => List Int → Int → Int → Int → Int → List Int → Option α) (fun _ _ _ _ _ _ => none) (fun _ next => impl_natShift_L0r N next k0) n v1044 v1045 v1046 v1047 v1048 v1049
theorem impl_natShift_L0.ex : ∃ f : ((α : Type) → Nat → Nat → List Int → Int → Int → Int → Int → List Int → (List Int → Option α) → Option α), f = fun α => @impl_natShift_L0.b α := ⟨_, rfl⟩
noncomputable def impl_natShift_L0 {α : Type} : Nat → Nat → List Int → Int → Int → Int → Int → List Int → (List Int → Option α) → Option α := Classical.choose impl_natShift_L0.ex α
theorem impl_natShift_L0.eq : @impl_natShift_L0 = @impl_natShift_L0.b := funext fun α => congrFun (Classical.choose_spec impl_natShift_L0.ex) α
theorem impl_natShift_L0.zero {α : Type} (N : Nat) (v1044 : List Int) (v1045 : Int) (v1046 : Int) (v1047 : Int) (v1048 : Int) (v1049 : List Int) (k0 : List Int → Option α) : impl_natShift_L0 N 0 v1044 v1045 v1046 v1047 v1048 v1049 k0 = none := by rw [impl_natShift_L0.eq]; rfl
theorem impl_natShift_L0.succ {α : Type} (N n : Nat) (v1044 : List Int) (v1045 : Int) (v1046 : Int) (v1047 : Int) (v1048 : Int) (v1049 : List Int) (k0 : List Int → Option α) : impl_natShift_L0 N (n + 1) v1044 v1045 v1046 v1047 v1048 v1049 k0 = impl_natShift_L0r N (fun y0 y1 y2 y3 y4 y5 => impl_natShift_L0 N n y0 y1 y2 y3 y4 y5 k0) k0 v1044 v1045 v1046 v1047 v1048 v1049 := by rw [impl_natShift_L0.eq]; rfl
noncomputable def impl_natShift_L2r {α : Type} (N : Nat) (next : Int → List Int → Int → Int → List Int → Option α) (k0 : List Int → Option α) (v1091 : Int) (v1092 : List Int) (v1093 : Int) (v1094 : Int) (v1095 : List Int) : Option α :=
  let x1096 := decide (v1094 < v1093)
  bif x1096 then
    bif (decide (v1094 < (0 : Int))) then
      none
    else
      match v1092[v1094.toNat]? with
      | some x1097 =>
        let x1098 := (Int.tmod v1091 (16 : Int))
        bif (decide (x1098 < (0 : Int))) then
          none
        else
          let x1099 := shlI .i64 x1097 x1098
          let x1100 := (IntKind.i64.wrap (Int.tdiv v1091 (16 : Int)))
          let x1101 := IntKind.i64.wrap (x1100 + v1094)
          bif (decide (x1101 < (0 : Int))) then
            none
          else
            bif decide (x1101.toNat < v1095.length) then
              match v1095[x1101.toNat]? with
              | some x1102 =>
                let x1103 := (bitI .and .i64 x1099 (65535 : Int))
                let x1104 := bitI .or .i64 x1102 x1103
                bif (decide (x1101 < (0 : Int))) then
                  none
                else
                  bif decide (x1101.toNat < v1095.length) then
                    match v1095[x1101.toNat]? with
                    | some x1105 =>
                      let x1106 := v1095.set x1101.toNat x1104
                      let x1107 := (IntKind.i64.wrap (Int.tdiv v1091 (16 : Int)))
                      let x1108 := IntKind.i64.wrap (x1107 + v1094)
                      let x1109 := (IntKind.i64.wrap (x1108 + (1 : Int)))
                      let x1110 := (shrI .i64 x1099 (16 : Int))
                      bif (decide (x1109 < (0 : Int))) then
                        none
                      else
                        bif decide (x1109.toNat < x1106.length) then
                          match x1106[x1109.toNat]? with
                          | some x1111 =>
                            let x1112 := x1106.set x1109.toNat x1110
                            let x1113 := (IntKind.i64.wrap (v1094 + (1 : Int)))
                            next v1091 v1092 v1093 x1113 x1112
                          | none => none
                        else
                          none
                    | none => none
                  else
                    none
              | none => none
            else
              none
      | none => none
  else
    k0 v1095
noncomputable def impl_natShift_L2.b {α : Type} (N n : Nat) (v1091 : Int) (v1092 : List Int) (v1093 : Int) (v1094 : Int) (v1095 : List Int) (k0 : List Int → Option α) : Option α :=
  Nat.rec (motive := fun _ => Int → List Int → Int → Int → List Int → Option α) (fun _ _ _ _ _ => none) (fun _ next => impl_natShift_L2r N next k0) n v1091 v1092 v1093 v1094 v1095
theorem impl_natShift_L2.ex : ∃ f : ((α : Type) → Nat → Nat → Int → List Int → Int → Int → List Int → (List Int → Option α) → Option α), f = fun α => @impl_natShift_L2.b α := ⟨_, rfl⟩
noncomputable def impl_natShift_L2 {α : Type} : Nat → Nat → Int → List Int → Int → Int → List Int → (List Int → Option α) → Option α := Classical.choose impl_natShift_L2.ex α
theorem impl_natShift_L2.eq : @impl_natShift_L2 = @impl_natShift_L2.b := funext fun α => congrFun (Classical.choose_spec impl_natShift_L2.ex) α
theorem impl_natShift_L2.zero {α : Type} (N : Nat) (v1091 : Int) (v1092 : List Int) (v1093 : Int) (v1094 : Int) (v1095 : List Int) (k0 : List Int → Option α) : impl_natShift_L2 N 0 v1091 v1092 v1093 v1094 v1095 k0 = none := by rw [impl_natShift_L2.eq]; rfl
theorem impl_natShift_L2.succ {α : Type} (N n : Nat) (v1091 : Int) (v1092 : List Int) (v1093 : Int) (v1094 : Int) (v1095 : List Int) (k0 : List Int → Option α) : impl_natShift_L2 N (n + 1) v1091 v1092 v1093 v1094 v1095 k0 = impl_natShift_L2r N (fun y0 y1 y2 y3 y4 => impl_natShift_L2 N n y0 y1 y2 y3 y4 k0) k0 v1091 v1092 v1093 v1094 v1095 := by rw [impl_natShift_L2.eq]; rfl
/-- loop.example/pinfold/impl.natShift -/
noncomputable def impl_natShift.b {α : Type} (N : Nat) (a1032 : List Int) (a1033 : Int) (k0 : List Int → Option α) : Option α :=
  let x1034 := (decide (a1033 < (0 : Int)))
  bif x1034 then
    let x1035 := IntKind.i64.wrap (0 - a1033)
    let x1036 := (IntKind.i64.wrap (Int.tdiv x1035 (16 : Int)))
    let x1037 := IntKind.i64.wrap (0 - a1033)
    let x1038 := (Int.tmod x1037 (16 : Int))
    let x1039 := ((a1032.length : Nat) : Int)
    let x1040 := decide (x1039 ≤ x1036)
    bif x1040 then
      k0 []
    else
      bif (decide ((0 : Int) ≤ x1036)) then
        bif (decide (x1036 ≤ ((a1032.length : Nat) : Int))) then
          let x1041 := a1032.drop x1036.toNat
          slices_Clone_int_int N x1041
            (fun x1042 =>
              let x1043 := ((x1042.length : Nat) : Int)
              impl_natShift_L0 N N a1032 x1036 x1038 x1043 (0 : Int) x1042
                (fun x1083 =>
                  impl_trim N x1083
                    (fun x1084 =>
                      k0 x1084)))
        else
          none
      else
        none
  else
    let x1085 := (IntKind.i64.wrap (Int.tdiv a1033 (16 : Int)))
    let x1086 := ((a1032.length : Nat) : Int)
    let x1087 := IntKind.i64.wrap (x1085 + x1086)
    let x1088 := (IntKind.i64.wrap (x1087 + (1 : Int)))
    bif (decide ((0 : Int) ≤ x1088)) then
      bif decide (x1088 ≤ x1088) then
        bif (decide (x1088 ≤ ((8796093022208 : Nat) : Int))) then
          let x1089 := (List.replicate x1088.toNat (0 : Int))
          let x1090 := ((a1032.length : Nat) : Int)
          impl_natShift_L2 N N a1033 a1032 x1090 (0 : Int) x1089
            (fun x1114 =>
              impl_trim N x1114
                (fun x1115 =>
                  k0 x1115))
        else
          none
      else
        none
    else
      none
theorem impl_natShift.ex : ∃ f : ((α : Type) → Nat → List Int → Int → (List Int → Option α) → Option α), f = fun α => @impl_natShift.b α := ⟨_, rfl⟩
noncomputable def impl_natShift {α : Type} : Nat → List Int → Int → (List Int → Option α) → Option α := Classical.choose impl_natShift.ex α
theorem impl_natShift.eq : @impl_natShift = @impl_natShift.b := funext fun α => congrFun (Classical.choose_spec impl_natShift.ex) α

noncomputable def impl_natDiv_L0r {α : Type} (N : Nat) (next : List Int → List Int → Int → Int → List Int → Option α) (k0 : Int → List Int → Option α) (v912 : List Int) (v913 : List Int) (v914 : Int) (v915 : Int) (v916 : List Int) : Option α :=
  let x917 := (decide ((0 : Int) ≤ v915))
  bif x917 then
    let x918 := (shlI .i64 v914 (16 : Int))
    bif (decide (v915 < (0 : Int))) then
      none
    else
      match v912[v915.toNat]? with
      | some x919 =>
        let x920 := bitI .or .i64 x918 x919
        match v913[0]? with
        | some x921 =>
          bif (decide (x921 = (0 : Int))) then
            none
          else
            let x922 := IntKind.i64.wrap (Int.tdiv x920 x921)
            match v913[0]? with
            | some x923 =>
              bif (decide (x923 = (0 : Int))) then
                none
              else
                let x924 := Int.tmod x920 x923
                bif (decide (v915 < (0 : Int))) then
                  none
                else
                  bif decide (v915.toNat < v916.length) then
                    match v916[v915.toNat]? with
                    | some x925 =>
                      let x926 := v916.set v915.toNat x922
                      let x927 := (IntKind.i64.wrap (v915 - (1 : Int)))
                      next v912 v913 x924 x927 x926
                    | none => none
                  else
                    none
            | none => none
        | none => none
      | none => none
  else
    k0 v914 v916
noncomputable def impl_natDiv_L0.b {α : Type} (N n : Nat) (v912 : List Int) (v913 : List Int) (v914 : Int) (v915 : Int) (v916 : List Int) (k0 : Int → List Int → Option α) : Option α :=
  Nat.rec (motive := fun _ => List Int → List Int → Int → Int → List Int → Option α) (fun _ _ _ _ _ => none) (fun _ next => impl_natDiv_L0r N next k0) n v912 v913 v914 v915 v916
theorem impl_natDiv_L0.ex : ∃ f : ((α : Type) → Nat → Nat → List Int → List Int → Int → Int → List Int → (Int → List Int → Option α) → Option α), f = fun α => @impl_natDiv_L0.b α := ⟨_, rfl⟩
noncomputable def impl_natDiv_L0 {α : Type} : Nat → Nat → List Int → List Int → Int → Int → List Int → (Int → List Int → Option α) → Option α := Classical.choose impl_natDiv_L0.ex α
theorem impl_natDiv_L0.eq : @impl_natDiv_L0 = @impl_natDiv_L0.b := funext fun α => congrFun (Classical.choose_spec impl_natDiv_L0.ex) α
theorem impl_natDiv_L0.zero {α : Type} (N : Nat) (v912 : List Int) (v913 : List Int) (v914 : Int) (v915 : Int) (v916 : List Int) (k0 : Int → List Int → Option α) : impl_natDiv_L0 N 0 v912 v913 v914 v915 v916 k0 = none := by rw [impl_natDiv_L0.eq]; rfl
theorem impl_natDiv_L0.succ {α : Type} (N n : Nat) (v912 : List Int) (v913 : List Int) (v914 : Int) (v915 : Int) (v916 : List Int) (k0 : Int → List Int → Option α) : impl_natDiv_L0 N (n + 1) v912 v913 v914 v915 v916 k0 = impl_natDiv_L0r N (fun y0 y1 y2 y3 y4 => impl_natDiv_L0 N n y0 y1 y2 y3 y4 k0) k0 v912 v913 v914 v915 v916 := by rw [impl_natDiv_L0.eq]; rfl
noncomputable def impl_natDiv_L2r {α : Type} (N : Nat) (next : List Int → Int → List Int → Int → List Int → Option α) (k0 : Int → List Int → Int → List Int → Option α) (v1122 : List Int) (v1123 : Int) (v1124 : List Int) (v1125 : Int) (v1126 : List Int) : Option α :=
  let x1127 := ((v1126.length : Nat) : Int)
  let x1128 := ((v1122.length : Nat) : Int)
  let x1129 := (IntKind.i64.wrap (x1128 + (1 : Int)))
  let x1130 := decide (x1127 < x1129)
  bif x1130 then
    let x1131 := [(0 : Int)]
    bif decide (v1126.length + x1131.length ≤ 8796093022208) then
      let x1132 := v1126 ++ x1131
      next v1122 v1123 v1124 v1125 x1132
    else
      none
  else
    k0 v1123 v1124 v1125 v1126
noncomputable def impl_natDiv_L2.b {α : Type} (N n : Nat) (v1122 : List Int) (v1123 : Int) (v1124 : List Int) (v1125 : Int) (v1126 : List Int) (k0 : Int → List Int → Int → List Int → Option α) : Option α :=
  Nat.rec (motive := fun _ => List Int → Int → List Int → Int → List Int → Option α) (fun _ _ _ _ _ => none) (fun _ next => impl_natDiv_L2r N next k0) n v1122 v1123 v1124 v1125 v1126
theorem impl_natDiv_L2.ex : ∃ f : ((α : Type) → Nat → Nat → List Int → Int → List Int → Int → List Int → (Int → List Int → Int → List Int → Option α) → Option α), f = fun α => @impl_natDiv_L2.b α := ⟨_, rfl⟩
noncomputable def impl_natDiv_L2 {α : Type} : Nat → Nat → List Int → Int → List Int → Int → List Int → (Int → List Int → Int → List Int → Option α) → Option α := Classical.choose impl_natDiv_L2.ex α
theorem impl_natDiv_L2.eq : @impl_natDiv_L2 = @impl_natDiv_L2.b := funext fun α => congrFun (Classical.choose_spec impl_natDiv_L2.ex) α
theorem impl_natDiv_L2.zero {α : Type} (N : Nat) (v1122 : List Int) (v1123 : Int) (v1124 : List Int) (v1125 : Int) (v1126 : List Int) (k0 : Int → List Int → Int → List Int → Option α) : impl_natDiv_L2 N 0 v1122 v1123 v1124 v1125 v1126 k0 = none := by rw [impl_natDiv_L2.eq]; rfl
theorem impl_natDiv_L2.succ {α : Type} (N n : Nat) (v1122 : List Int) (v1123 : Int) (v1124 : List Int) (v1125 : Int) (v1126 : List Int) (k0 : Int → List Int → Int → List Int → Option α) : impl_natDiv_L2 N (n + 1) v1122 v1123 v1124 v1125 v1126 k0 = impl_natDiv_L2r N (fun y0 y1 y2 y3 y4 => impl_natDiv_L2 N n y0 y1 y2 y3 y4 k0) k0 v1122 v1123 v1124 v1125 v1126 := by rw [impl_natDiv_L2.eq]; rfl
noncomputable def impl_natDiv_L6r {α : Type} (N : Nat) (next : Int → List Int → Int → Int → Int → Int → List Int → List Int → Option α) (k0 : Int → List Int → Int → Int → Int → List Int → List Int → Option α) (v1163 : Int) (v1164 : List Int) (v1165 : Int) (v1166 : Int) (v1167 : Int) (v1168 : Int) (v1169 : List Int) (v1170 : List Int) : Option α :=
  let x1171 := (decide ((65536 : Int) ≤ v1167))
  bif x1171 then
    let x1172 := (IntKind.i64.wrap (v1167 - (1 : Int)))
    let x1173 := (IntKind.i64.wrap (v1165 - (1 : Int)))
    bif (decide (x1173 < (0 : Int))) then
      none
    else
      match v1164[x1173.toNat]? with
      | some x1174 =>
        let x1175 := IntKind.i64.wrap (v1168 + x1174)
        let x1176 := (decide ((65536 : Int) ≤ x1175))
        bif x1176 then
          k0 v1163 v1164 v1165 v1166 x1172 v1169 v1170
        else
          next v1163 v1164 v1165 v1166 x1172 x1175 v1169 v1170
      | none => none
  else
    let x1177 := (IntKind.i64.wrap (v1165 - (2 : Int)))
    bif (decide (x1177 < (0 : Int))) then
      none
    else
      match v1164[x1177.toNat]? with
      | some x1178 =>
        let x1179 := IntKind.i64.wrap (v1167 * x1178)
        let x1180 := (shlI .i64 v1168 (16 : Int))
        let x1181 := IntKind.i64.wrap (v1166 + v1165)
        let x1182 := (IntKind.i64.wrap (x1181 - (2 : Int)))
        bif (decide (x1182 < (0 : Int))) then
          none
        else
          bif decide (x1182.toNat < v1169.length) then
            match v1169[x1182.toNat]? with
            | some x1183 =>
              let x1184 := bitI .or .i64 x1180 x1183
              let x1185 := decide (x1184 < x1179)
              bif x1185 then
                let x1186 := (IntKind.i64.wrap (v1167 - (1 : Int)))
                let x1187 := (IntKind.i64.wrap (v1165 - (1 : Int)))
                bif (decide (x1187 < (0 : Int))) then
                  none
                else
                  match v1164[x1187.toNat]? with
                  | some x1188 =>
                    let x1189 := IntKind.i64.wrap (v1168 + x1188)
                    let x1190 := (decide ((65536 : Int) ≤ x1189))
                    bif x1190 then
                      k0 v1163 v1164 v1165 v1166 x1186 v1169 v1170
                    else
                      next v1163 v1164 v1165 v1166 x1186 x1189 v1169 v1170
                  | none => none
              else
                k0 v1163 v1164 v1165 v1166 v1167 v1169 v1170
            | none => none
          else
            none
      | none => none
noncomputable def impl_natDiv_L6.b {α : Type} (N n : Nat) (v1163 : Int) (v1164 : List Int) (v1165 : Int) (v1166 : Int) (v1167 : Int) (v1168 : Int) (v1169 : List Int) (v1170 : List Int) (k0 : Int → List Int → Int → Int → Int → List Int → List Int → Option α) : Option α :=
  Nat.rec (motive := fun _ => Int → List Int → Int → Int → Int → Int → List Int → List Int → Option α) (fun _ _ _ _ _ _ _ _ => none) (fun _ next => impl_natDiv_L6r N next k0) n v1163 v1164 v1165 v1166 v1167 v1168 v1169 v1170
theorem impl_natDiv_L6.ex : ∃ f : ((α : Type) → Nat → Nat → Int → List Int → Int → Int → Int → Int → List Int → List Int → (Int → List Int → Int → Int → Int → List Int → List Int → Option α) → Option α), f = fun α => @impl_natDiv_L6.b α := ⟨_, rfl⟩
noncomputable def impl_natDiv_L6 {α : Type} : Nat → Nat → Int → List Int → Int → Int → Int → Int → List Int → List Int → (Int → List Int → Int → Int → Int → List Int → List Int → Option α) → Option α := Classical.choose impl_natDiv_L6.ex α
theorem impl_natDiv_L6.eq : @impl_natDiv_L6 = @impl_natDiv_L6.b := funext fun α => congrFun (Classical.choose_spec impl_natDiv_L6.ex) α
theorem impl_natDiv_L6.zero {α : Type} (N : Nat) (v1163 : Int) (v1164 : List Int) (v1165 : Int) (v1166 : Int) (v1167 : Int) (v1168 : Int) (v1169 : List Int) (v1170 : List Int) (k0 : Int → List Int → Int → Int → Int → List Int → List Int → Option α) : impl_natDiv_L6 N 0 v1163 v1164 v1165 v1166 v1167 v1168 v1169 v1170 k0 = none := by rw [impl_natDiv_L6.eq]; rfl
theorem impl_natDiv_L6.succ {α : Type} (N n : Nat) (v1163 : Int) (v1164 : List Int) (v1165 : Int) (v1166 : Int) (v1167 : Int) (v1168 : Int) (v1169 : List Int) (v1170 : List Int) (k0 : Int → List Int → Int → Int → Int → List Int → List Int → Option α) : impl_natDiv_L6 N (n + 1) v1163 v1164 v1165 v1166 v1167 v1168 v1169 v1170 k0 = impl_natDiv_L6r N (fun y0 y1 y2 y3 y4 y5 y6 y7 => impl_natDiv_L6 N n y0 y1 y2 y3 y4 y5 y6 y7 k0) k0 v1163 v1164 v1165 v1166 v1167 v1168 v1169 v1170 := by rw [impl_natDiv_L6.eq]; rfl
noncomputable def impl_natDiv_J34.b {α : Type} (N : Nat) (v1217 : Int) (v1218 : List Int) (v1219 : Int) (v1220 : Int) (v1221 : Int) (v1222 : Int) (v1223 : Int) (v1224 : Int) (v1225 : List Int) (v1226 : Int) (v1227 : Int) (v1228 : List Int) (v1229 : List Int) (k0 : Int → List Int → Int → Int → Int → Int → Int → Int → List Int → Int → Int → List Int → List Int → Option α) : Option α :=
  let x1230 := (decide (v1224 < (0 : Int)))
  bif x1230 then
    let x1231 := IntKind.i64.wrap (0 - v1224)
    let x1232 := (IntKind.i64.wrap (x1231 + (65536 : Int)))
    let x1233 := (IntKind.i64.wrap (x1232 - (1 : Int)))
    let x1234 := (IntKind.i64.wrap (Int.tdiv x1233 (65536 : Int)))
    let x1235 := (IntKind.i64.wrap (x1234 * (65536 : Int)))
    let x1236 := IntKind.i64.wrap (v1224 + x1235)
    k0 v1217 v1218 v1219 v1220 v1221 x1234 v1223 x1236 v1225 v1226 v1227 v1228 v1229
  else
    k0 v1217 v1218 v1219 v1220 v1221 v1222 v1223 v1224 v1225 v1226 v1227 v1228 v1229
theorem impl_natDiv_J34.ex : ∃ f : ((α : Type) → Nat → Int → List Int → Int → Int → Int → Int → Int → Int → List Int → Int → Int → List Int → List Int → (Int → List Int → Int → Int → Int → Int → Int → Int → List Int → Int → Int → List Int → List Int → Option α) → Option α), f = fun α => @impl_natDiv_J34.b α := ⟨_, rfl⟩
noncomputable def impl_natDiv_J34 {α : Type} : Nat → Int → List Int → Int → Int → Int → Int → Int → Int → List Int → Int → Int → List Int → List Int → (Int → List Int → Int → Int → Int → Int → Int → Int → List Int → Int → Int → List Int → List Int → Option α) → Option α := Classical.choose impl_natDiv_J34.ex α
theorem impl_natDiv_J34.eq : @impl_natDiv_J34 = @impl_natDiv_J34.b := funext fun α => congrFun (Classical.choose_spec impl_natDiv_J34.ex) α
noncomputable def impl_natDiv_L8r {α : Type} (N : Nat) (next : Int → List Int → Int → Int → Int → Int → List Int → Int → Int → List Int → List Int → Option α) (k0 : Int → List Int → Int → Int → Int → Int → List Int → List Int → Option α) (v1199 : Int) (v1200 : List Int) (v1201 : Int) (v1202 : Int) (v1203 : Int) (v1204 : Int) (v1205 : List Int) (v1206 : Int) (v1207 : Int) (v1208 : List Int) (v1209 : List Int) : Option α :=
  let x1210 := decide (v1207 < v1206)
  bif x1210 then
    bif (decide (v1207 < (0 : Int))) then
      none
    else
      match v1205[v1207.toNat]? with
      | some x1211 =>
        let x1212 := IntKind.i64.wrap (v1202 + v1207)
        bif (decide (x1212 < (0 : Int))) then
          none
        else
          bif decide (x1212.toNat < v1208.length) then
            match v1208[x1212.toNat]? with
            | some x1213 =>
              let x1214 := IntKind.i64.wrap (x1213 - v1204)
              let x1215 := IntKind.i64.wrap (v1203 * x1211)
              let x1216 := IntKind.i64.wrap (x1214 - x1215)
              impl_natDiv_J34 N v1199 v1200 v1201 v1202 v1203 (0 : Int) v1207 x1216 v1205 v1206 v1207 v1208 v1209
                (fun x1237 x1238 x1239 x1240 x1241 x1242 x1243 x1244 x1245 x1246 x1247 x1248 x1249 =>
                  let x1250 := IntKind.i64.wrap (x1240 + x1243)
                  bif (decide (x1250 < (0 : Int))) then
                    none
                  else
                    bif decide (x1250.toNat < x1248.length) then
                      match x1248[x1250.toNat]? with
                      | some x1251 =>
                        let x1252 := x1248.set x1250.toNat x1244
                        let x1253 := (IntKind.i64.wrap (x1247 + (1 : Int)))
                        next x1237 x1238 x1239 x1240 x1241 x1242 x1245 x1246 x1253 x1252 x1249
                      | none => none
                    else
                      none)
            | none => none
          else
            none
      | none => none
  else
    k0 v1199 v1200 v1201 v1202 v1203 v1204 v1208 v1209
noncomputable def impl_natDiv_L8.b {α : Type} (N n : Nat) (v1199 : Int) (v1200 : List Int) (v1201 : Int) (v1202 : Int) (v1203 : Int) (v1204 : Int) (v1205 : List Int) (v1206 : Int) (v1207 : Int) (v1208 : List Int) (v1209 : List Int) (k0 : Int → List Int → Int → Int → Int → Int → List Int → List Int → Option α) : Option α :=
  Nat.rec (motive := fun _ => Int → List Int → Int → Int → Int → Int → List Int → Int → Int → List Int → List Int → Option α) (fun _ _ _ _ _ _ _ _ _ _ _ => none) (fun _ next => impl_natDiv_L8r N next k0) n v1199 v1200 v1201 v1202 v1203 v1204 v1205 v1206 v1207 v1208 v1209
theorem impl_natDiv_L8.ex : ∃ f : ((α : Type) → Nat → Nat → Int → List Int → Int → Int → Int → Int → List Int → Int → Int → List Int → List Int → (Int → List Int → Int → Int → Int → Int → List Int → List Int → Option α) → Option α), f = fun α => @impl_natDiv_L8.b α := ⟨_, rfl⟩
noncomputable def impl_natDiv_L8 {α : Type} : Nat → Nat → Int → List Int → Int → Int → Int → Int → List Int → Int → Int → List Int → List Int → (Int → List Int → Int → Int → Int → Int → List Int → List Int → Option α) → Option α := Classical.choose impl_natDiv_L8.ex α
theorem impl_natDiv_L8.eq : @impl_natDiv_L8 = @impl_natDiv_L8.b := funext fun α => congrFun (Classical.choose_spec impl_natDiv_L8.ex) α
theorem impl_natDiv_L8.zero {α : Type} (N : Nat) (v1199 : Int) (v1200 : List Int) (v1201 : Int) (v1202 : Int) (v1203 : Int) (v1204 : Int) (v1205 : List Int) (v1206 : Int) (v1207 : Int) (v1208 : List Int) (v1209 : List Int) (k0 : Int → List Int → Int → Int → Int → Int → List Int → List Int → Option α) : impl_natDiv_L8 N 0 v1199 v1200 v1201 v1202 v1203 v1204 v1205 v1206 v1207 v1208 v1209 k0 = none := by rw [impl_natDiv_L8.eq]; rfl
theorem impl_natDiv_L8.succ {α : Type} (N n : Nat) (v1199 : Int) (v1200 : List Int) (v1201 : Int) (v1202 : Int) (v1203 : Int) (v1204 : Int) (v1205 : List Int) (v1206 : Int) (v1207 : Int) (v1208 : List Int) (v1209 : List Int) (k0 : Int → List Int → Int → Int → Int → Int → List Int → List Int → Option α) : impl_natDiv_L8 N (n + 1) v1199 v1200 v1201 v1202 v1203 v1204 v1205 v1206 v1207 v1208 v1209 k0 = impl_natDiv_L8r N (fun y0 y1 y2 y3 y4 y5 y6 y7 y8 y9 y10 => impl_natDiv_L8 N n y0 y1 y2 y3 y4 y5 y6 y7 y8 y9 y10 k0) k0 v1199 v1200 v1201 v1202 v1203 v1204 v1205 v1206 v1207 v1208 v1209 := by rw [impl_natDiv_L8.eq]; rfl
noncomputable def impl_natDiv_L10r {α : Type} (N : Nat) (next : Int → List Int → Int → Int → Int → Int → List Int → Int → Int → List Int → List Int → Option α) (k0 : Int → List Int → Int → Int → Int → Int → List Int → List Int → Option α) (v1279 : Int) (v1280 : List Int) (v1281 : Int) (v1282 : Int) (v1283 : Int) (v1284 : Int) (v1285 : List Int) (v1286 : Int) (v1287 : Int) (v1288 : List Int) (v1289 : List Int) : Option α :=
  let x1290 := decide (v1287 < v1286)
  bif x1290 then
    bif (decide (v1287 < (0 : Int))) then
      none
    else
      match v1285[v1287.toNat]? with
      | some x1291 =>
        let x1292 := IntKind.i64.wrap (v1282 + v1287)
        bif (decide (x1292 < (0 : Int))) then
          none
        else
          bif decide (x1292.toNat < v1288.length) then
            match v1288[x1292.toNat]? with
            | some x1293 =>
              let x1294 := IntKind.i64.wrap (x1293 + x1291)
              let x1295 := IntKind.i64.wrap (x1294 + v1284)
              let x1296 := IntKind.i64.wrap (v1282 + v1287)
              let x1297 := (bitI .and .i64 x1295 (65535 : Int))
              let x1298 := (shrI .i64 x1295 (16 : Int))
              bif (decide (x1296 < (0 : Int))) then
                none
              else
                bif decide (x1296.toNat < v1288.length) then
                  match v1288[x1296.toNat]? with
                  | some x1299 =>
                    let x1300 := v1288.set x1296.toNat x1297
                    let x1301 := (IntKind.i64.wrap (v1287 + (1 : Int)))
                    next v1279 v1280 v1281 v1282 v1283 x1298 v1285 v1286 x1301 x1300 v1289
                  | none => none
                else
                  none
            | none => none
          else
            none
      | none => none
  else
    k0 v1279 v1280 v1281 v1282 v1283 v1284 v1288 v1289
noncomputable def impl_natDiv_L10.b {α : Type} (N n : Nat) (v1279 : Int) (v1280 : List Int) (v1281 : Int) (v1282 : Int) (v1283 : Int) (v1284 : Int) (v1285 : List Int) (v1286 : Int) (v1287 : Int) (v1288 : List Int) (v1289 : List Int) (k0 : Int → List Int → Int → Int → Int → Int → List Int → List Int → Option α) : Option α :=
  Nat.rec (motive := fun _ => Int → List Int → Int → Int → Int → Int → List Int → Int → Int → List Int → List Int → Option α) (fun _ _ _ _ _ _ _ _ _ _ _ => none) (fun _ next => impl_natDiv_L10r N next k0) n v1279 v1280 v1281 v1282 v1283 v1284 v1285 v1286 v1287 v1288 v1289
theorem impl_natDiv_L10.ex : ∃ f : ((α : Type) → Nat → Nat → Int → List Int → Int → Int → Int → Int → List Int → Int → Int → List Int → List Int → (Int → List Int → Int → Int → Int → Int → List Int → List Int → Option α) → Option α), f = fun α => @impl_natDiv_L10.b α := ⟨_, rfl⟩
noncomputable def impl_natDiv_L10 {α : Type} : Nat → Nat → Int → List Int → Int → Int → Int → Int → List Int → Int → Int → List Int → List Int → (Int → List Int → Int → Int → Int → Int → List Int → List Int → Option α) → Option α := Classical.choose impl_natDiv_L10.ex α
theorem impl_natDiv_L10.eq : @impl_natDiv_L10 = @impl_natDiv_L10.b := funext fun α => congrFun (Classical.choose_spec impl_natDiv_L10.ex) α
theorem impl_natDiv_L10.zero {α : Type} (N : Nat) (v1279 : Int) (v1280 : List Int) (v1281 : Int) (v1282 : Int) (v1283 : Int) (v1284 : Int) (v1285 : List Int) (v1286 : Int) (v1287 : Int) (v1288 : List Int) (v1289 : List Int) (k0 : Int → List Int → Int → Int → Int → Int → List Int → List Int → Option α) : impl_natDiv_L10 N 0 v1279 v1280 v1281 v1282 v1283 v1284 v1285 v1286 v1287 v1288 v1289 k0 = none := by rw [impl_natDiv_L10.eq]; rfl
theorem impl_natDiv_L10.succ {α : Type} (N n : Nat) (v1279 : Int) (v1280 : List Int) (v1281 : Int) (v1282 : Int) (v1283 : Int) (v1284 : Int) (v1285 : List Int) (v1286 : Int) (v1287 : Int) (v1288 : List Int) (v1289 : List Int) (k0 : Int → List Int → Int → Int → Int → Int → List Int → List Int → Option α) : impl_natDiv_L10 N (n + 1) v1279 v1280 v1281 v1282 v1283 v1284 v1285 v1286 v1287 v1288 v1289 k0 = impl_natDiv_L10r N (fun y0 y1 y2 y3 y4 y5 y6 y7 y8 y9 y10 => impl_natDiv_L10 N n y0 y1 y2 y3 y4 y5 y6 y7 y8 y9 y10 k0) k0 v1279 v1280 v1281 v1282 v1283 v1284 v1285 v1286 v1287 v1288 v1289 := by rw [impl_natDiv_L10.eq]; rfl
noncomputable def impl_natDiv_J40.b {α : Type} (N : Nat) (v1267 : Int) (v1268 : List Int) (v1269 : Int) (v1270 : Int) (v1271 : Int) (v1272 : List Int) (v1273 : List Int) (k0 : Int → List Int → Int → Int → Int → List Int → List Int → Option α) : Option α :=
  let x1274 := IntKind.i64.wrap (v1270 + v1269)
  bif (decide (x1274 < (0 : Int))) then
    none
  else
    bif decide (x1274.toNat < v1272.length) then
      match v1272[x1274.toNat]? with
      | some x1275 =>
        let x1276 := (decide (x1275 < (0 : Int)))
        bif x1276 then
          let x1277 := (IntKind.i64.wrap (v1271 - (1 : Int)))
          let x1278 := ((v1268.length : Nat) : Int)
          impl_natDiv_L10 N N v1267 v1268 v1269 v1270 x1277 (0 : Int) v1268 x1278 (0 : Int) v1272 v1273
            (fun x1302 x1303 x1304 x1305 x1306 x1307 x1308 x1309 =>
              let x1310 := IntKind.i64.wrap (x1305 + x1304)
              bif (decide (x1310 < (0 : Int))) then
                none
              else
                bif decide (x1310.toNat < x1308.length) then
                  match x1308[x1310.toNat]? with
                  | some x1311 =>
                    let x1312 := IntKind.i64.wrap (x1311 + x1307)
                    bif (decide (x1310 < (0 : Int))) then
                      none
                    else
                      bif decide (x1310.toNat < x1308.length) then
                        match x1308[x1310.toNat]? with
                        | some x1313 =>
                          let x1314 := x1308.set x1310.toNat x1312
                          k0 x1302 x1303 x1304 x1305 x1306 x1314 x1309
                        | none => none
                      else
                        none
                  | none => none
                else
                  none)
        else
          k0 v1267 v1268 v1269 v1270 v1271 v1272 v1273
      | none => none
    else
      none
theorem impl_natDiv_J40.ex : ∃ f : ((α : Type) → Nat → Int → List Int → Int → Int → Int → List Int → List Int → (Int → List Int → Int → Int → Int → List Int → List Int → Option α) → Option α), f = fun α => @impl_natDiv_J40.b α := ⟨_, rfl⟩
noncomputable def impl_natDiv_J40 {α : Type} : Nat → Int → List Int → Int → Int → Int → List Int → List Int → (Int → List Int → Int → Int → Int → List Int → List Int → Option α) → Option α := Classical.choose impl_natDiv_J40.ex α
theorem impl_natDiv_J40.eq : @impl_natDiv_J40 = @impl_natDiv_J40.b := funext fun α => congrFun (Classical.choose_spec impl_natDiv_J40.ex) α
noncomputable def impl_natDiv_L4r {α : Type} (N : Nat) (next : Int → List Int → Int → Int → List Int → List Int → Option α) (k0 : Int → List Int → List Int → Option α) (v1143 : Int) (v1144 : List Int) (v1145 : Int) (v1146 : Int) (v1147 : List Int) (v1148 : List Int) : Option α :=
  let x1149 := (decide ((0 : Int) ≤ v1146))
  bif x1149 then
    let x1150 := IntKind.i64.wrap (v1146 + v1145)
    bif (decide (x1150 < (0 : Int))) then
      none
    else
      bif decide (x1150.toNat < v1147.length) then
        match v1147[x1150.toNat]? with
        | some x1151 =>
          let x1152 := (shlI .i64 x1151 (16 : Int))
          let x1153 := IntKind.i64.wrap (v1146 + v1145)
          let x1154 := (IntKind.i64.wrap (x1153 - (1 : Int)))
          bif (decide (x1154 < (0 : Int))) then
            none
          else
            bif decide (x1154.toNat < v1147.length) then
              match v1147[x1154.toNat]? with
              | some x1155 =>
                let x1156 := bitI .or .i64 x1152 x1155
                let x1157 := (IntKind.i64.wrap (v1145 - (1 : Int)))
                bif (decide (x1157 < (0 : Int))) then
                  none
                else
                  match v1144[x1157.toNat]? with
                  | some x1158 =>
                    bif (decide (x1158 = (0 : Int))) then
                      none
                    else
                      let x1159 := IntKind.i64.wrap (Int.tdiv x1156 x1158)
                      let x1160 := (IntKind.i64.wrap (v1145 - (1 : Int)))
                      bif (decide (x1160 < (0 : Int))) then
                        none
                      else
                        match v1144[x1160.toNat]? with
                        | some x1161 =>
                          bif (decide (x1161 = (0 : Int))) then
                            none
                          else
                            let x1162 := Int.tmod x1156 x1161
                            impl_natDiv_L6 N N v1143 v1144 v1145 v1146 x1159 x1162 v1147 v1148
                              (fun x1191 x1192 x1193 x1194 x1195 x1196 x1197 =>
                                let x1198 := ((x1192.length : Nat) : Int)
                                impl_natDiv_L8 N N x1191 x1192 x1193 x1194 x1195 (0 : Int) x1192 x1198 (0 : Int) x1196 x1197
                                  (fun x1254 x1255 x1256 x1257 x1258 x1259 x1260 x1261 =>
                                    let x1262 := IntKind.i64.wrap (x1257 + x1256)
                                    bif (decide (x1262 < (0 : Int))) then
                                      none
                                    else
                                      bif decide (x1262.toNat < x1260.length) then
                                        match x1260[x1262.toNat]? with
                                        | some x1263 =>
                                          let x1264 := IntKind.i64.wrap (x1263 - x1259)
                                          bif (decide (x1262 < (0 : Int))) then
                                            none
                                          else
                                            bif decide (x1262.toNat < x1260.length) then
                                              match x1260[x1262.toNat]? with
                                              | some x1265 =>
                                                let x1266 := x1260.set x1262.toNat x1264
                                                impl_natDiv_J40 N x1254 x1255 x1256 x1257 x1258 x1266 x1261
                                                  (fun x1315 x1316 x1317 x1318 x1319 x1320 x1321 =>
                                                    bif (decide (x1318 < (0 : Int))) then
                                                      none
                                                    else
                                                      bif decide (x1318.toNat < x1321.length) then
                                                        match x1321[x1318.toNat]? with
                                                        | some x1322 =>
                                                          let x1323 := x1321.set x1318.toNat x1319
                                                          let x1324 := (IntKind.i64.wrap (x1318 - (1 : Int)))
                                                          next x1315 x1316 x1317 x1324 x1320 x1323
                                                        | none => none
                                                      else
                                                        none)
                                              | none => none
                                            else
                                              none
                                        | none => none
                                      else
                                        none))
                        | none => none
                  | none => none
              | none => none
            else
              none
        | none => none
      else
        none
  else
    k0 v1143 v1147 v1148
noncomputable def impl_natDiv_L4.b {α : Type} (N n : Nat) (v1143 : Int) (v1144 : List Int) (v1145 : Int) (v1146 : Int) (v1147 : List Int) (v1148 : List Int) (k0 : Int → List Int → List Int → Option α) : Option α :=
  Nat.rec (motive := fun _ => Int → List Int → Int → Int → List Int → List Int → Option α) (fun _ _ _ _ _ _ => none) (fun _ next => impl_natDiv_L4r N next k0) n v1143 v1144 v1145 v1146 v1147 v1148
theorem impl_natDiv_L4.ex : ∃ f : ((α : Type) → Nat → Nat → Int → List Int → Int → Int → List Int → List Int → (Int → List Int → List Int → Option α) → Option α), f = fun α => @impl_natDiv_L4.b α := ⟨_, rfl⟩
noncomputable def impl_natDiv_L4 {α : Type} : Nat → Nat → Int → List Int → Int → Int → List Int → List Int → (Int → List Int → List Int → Option α) → Option α := Classical.choose impl_natDiv_L4.ex α
theorem impl_natDiv_L4.eq : @impl_natDiv_L4 = @impl_natDiv_L4.b := funext fun α => congrFun (Classical.choose_spec impl_natDiv_L4.ex) α
theorem impl_natDiv_L4.zero {α : Type} (N : Nat) (v1143 : Int) (v1144 : List Int) (v1145 : Int) (v1146 : Int) (v1147 : List Int) (v1148 : List Int) (k0 : Int → List Int → List Int → Option α) : impl_natDiv_L4 N 0 v1143 v1144 v1145 v1146 v1147 v1148 k0 = none := by rw [impl_natDiv_L4.eq]; rfl
theorem impl_natDiv_L4.succ {α : Type} (N n : Nat) (v1143 : Int) (v1144 : List Int) (v1145 : Int) (v1146 : Int) (v1147 : List Int) (v1148 : List Int) (k0 : Int → List Int → List Int → Option α) : impl_natDiv_L4 N (n + 1) v1143 v1144 v1145 v1146 v1147 v1148 k0 = impl_natDiv_L4r N (fun y0 y1 y2 y3 y4 y5 => impl_natDiv_L4 N n y0 y1 y2 y3 y4 y5 k0) k0 v1143 v1144 v1145 v1146 v1147 v1148 := by rw [impl_natDiv_L4.eq]; rfl
/-- loop.example/pinfold/impl.natDiv -/
noncomputable def impl_natDiv.b {α : Type} (N : Nat) (a876 : List Int) (a877 : List Int) (k0 : List Int → List Int → Option α) : Option α :=
  impl_natCmp N a876 a877
    (fun x904 =>
      let x905 := (decide (x904 < (0 : Int)))
      bif x905 then
        k0 [] a876
      else
        let x906 := ((a877.length : Nat) : Int)
        let x907 := (decide (x906 = (1 : Int)))
        bif x907 then
          let x908 := ((a876.length : Nat) : Int)
          bif (decide ((0 : Int) ≤ x908)) then
            bif decide (x908 ≤ x908) then
              bif (decide (x908 ≤ ((8796093022208 : Nat) : Int))) then
                let x909 := (List.replicate x908.toNat (0 : Int))
                let x910 := ((a876.length : Nat) : Int)
                let x911 := (IntKind.i64.wrap (x910 - (1 : Int)))
                impl_natDiv_L0 N N a876 a877 (0 : Int) x911 x909
                  (fun x928 x929 =>
                    impl_trim N x929
                      (fun x942 =>
                        let x943 := [x928]
                        impl_trim N x943
                          (fun x944 =>
                            k0 x942 x944)))
              else
                none
            else
              none
          else
            none
        else
          let x945 := ((a877.length : Nat) : Int)
          let x946 := (IntKind.i64.wrap (x945 - (1 : Int)))
          bif (decide (x946 < (0 : Int))) then
            none
          else
            match a877[x946.toNat]? with
            | some x947 =>
              let x948 := IntKind.u64.wrap x947
              math_bits_Len N x948
                (fun x977 =>
                  let x978 := (IntKind.i64.wrap ((16 : Int) - x977))
                  impl_natShift N a877 x978
                    (fun x1116 =>
                      impl_natShift N a876 x978
                        (fun x1117 =>
                          slices_Clone_int_int N x1117
                            (fun x1118 =>
                              let x1119 := [(0 : Int)]
                              bif decide (x1118.length + x1119.length ≤ 8796093022208) then
                                let x1120 := x1118 ++ x1119
                                let x1121 := ((x1116.length : Nat) : Int)
                                impl_natDiv_L2 N N a876 x978 x1116 x1121 x1120
                                  (fun x1133 x1134 x1135 x1136 =>
                                    let x1137 := ((x1136.length : Nat) : Int)
                                    let x1138 := IntKind.i64.wrap (x1137 - x1135)
                                    bif (decide ((0 : Int) ≤ x1138)) then
                                      bif decide (x1138 ≤ x1138) then
                                        bif (decide (x1138 ≤ ((8796093022208 : Nat) : Int))) then
                                          let x1139 := (List.replicate x1138.toNat (0 : Int))
                                          let x1140 := ((x1136.length : Nat) : Int)
                                          let x1141 := IntKind.i64.wrap (x1140 - x1135)
                                          let x1142 := (IntKind.i64.wrap (x1141 - (1 : Int)))
                                          impl_natDiv_L4 N N x1133 x1134 x1135 x1142 x1136 x1139
                                            (fun x1325 x1326 x1327 =>
                                              impl_trim N x1327
                                                (fun x1328 =>
                                                  impl_trim N x1326
                                                    (fun x1329 =>
                                                      let x1330 := IntKind.i64.wrap (0 - x1325)
                                                      impl_natShift N x1329 x1330
                                                        (fun x1331 =>
                                                          k0 x1328 x1331))))
                                        else
                                          none
                                      else
                                        none
                                    else
                                      none)
                              else
                                none))))
            | none => none)
theorem impl_natDiv.ex : ∃ f : ((α : Type) → Nat → List Int → List Int → (List Int → List Int → Option α) → Option α), f = fun α => @impl_natDiv.b α := ⟨_, rfl⟩
noncomputable def impl_natDiv {α : Type} : Nat → List Int → List Int → (List Int → List Int → Option α) → Option α := Classical.choose impl_natDiv.ex α
theorem impl_natDiv.eq : @impl_natDiv = @impl_natDiv.b := funext fun α => congrFun (Classical.choose_spec impl_natDiv.ex) α

noncomputable def impl_natGcd_L0r {α : Type} (N : Nat) (next : List Int → List Int → Option α) (k0 : List Int → Option α) (v803 : List Int) (v804 : List Int) : Option α :=
  let x805 := ((v804.length : Nat) : Int)
  let x806 := (decide ((0 : Int) < x805))
  bif x806 then
    impl_natDiv N v803 v804
      (fun _ x1333 =>
        next v804 x1333)
  else
    k0 v803
noncomputable def impl_natGcd_L0.b {α : Type} (N n : Nat) (v803 : List Int) (v804 : List Int) (k0 : List Int → Option α) : Option α :=
  Nat.rec (motive := fun _ => List Int → List Int → Option α) (fun _ _ => none) (fun _ next => impl_natGcd_L0r N next k0) n v803 v804
theorem impl_natGcd_L0.ex : ∃ f : ((α : Type) → Nat → Nat → List Int → List Int → (List Int → Option α) → Option α), f = fun α => @impl_natGcd_L0.b α := ⟨_, rfl⟩
noncomputable def impl_natGcd_L0 {α : Type} : Nat → Nat → List Int → List Int → (List Int → Option α) → Option α := Classical.choose impl_natGcd_L0.ex α
theorem impl_natGcd_L0.eq : @impl_natGcd_L0 = @impl_natGcd_L0.b := funext fun α => congrFun (Classical.choose_spec impl_natGcd_L0.ex) α
theorem impl_natGcd_L0.zero {α : Type} (N : Nat) (v803 : List Int) (v804 : List Int) (k0 : List Int → Option α) : impl_natGcd_L0 N 0 v803 v804 k0 = none := by rw [impl_natGcd_L0.eq]; rfl
theorem impl_natGcd_L0.succ {α : Type} (N n : Nat) (v803 : List Int) (v804 : List Int) (k0 : List Int → Option α) : impl_natGcd_L0 N (n + 1) v803 v804 k0 = impl_natGcd_L0r N (fun y0 y1 => impl_natGcd_L0 N n y0 y1 k0) k0 v803 v804 := by rw [impl_natGcd_L0.eq]; rfl
/-- loop.example/pinfold/impl.natGcd -/
noncomputable def impl_natGcd.b {α : Type} (N : Nat) (a801 : List Int) (a802 : List Int) (k0 : List Int → Option α) : Option α :=
  impl_natGcd_L0 N N a801 a802
    (fun x1334 =>
      k0 x1334)
theorem impl_natGcd.ex : ∃ f : ((α : Type) → Nat → List Int → List Int → (List Int → Option α) → Option α), f = fun α => @impl_natGcd.b α := ⟨_, rfl⟩
noncomputable def impl_natGcd {α : Type} : Nat → List Int → List Int → (List Int → Option α) → Option α := Classical.choose impl_natGcd.ex α
theorem impl_natGcd.eq : @impl_natGcd = @impl_natGcd.b := funext fun α => congrFun (Classical.choose_spec impl_natGcd.ex) α

/-- loop.example/pinfold/impl.FracOk -/
noncomputable def impl_FracOk.b {α : Type} (N : Nat) (a746 : Bool × (List Int) × (List Int) × Unit) (k0 : Bool → Option α) : Option α :=
  let x747 := [a746.2.1, a746.2.2.1]
  impl_nats N x747
    (fun x796 =>
      bif x796 then
        let x797 := ((a746.2.2.1.length : Nat) : Int)
        let x798 := (decide ((0 : Int) < x797))
        bif x798 then
          let x799 := ((a746.2.1.length : Nat) : Int)
          let x800 := (decide ((0 : Int) < x799))
          bif x800 then
            impl_natGcd N a746.2.1 a746.2.2.1
              (fun x1335 =>
                let x1336 := [(1 : Int)]
                impl_natCmp N x1335 x1336
                  (fun x1337 =>
                    let x1338 := (decide (x1337 = (0 : Int)))
                    k0 x1338))
          else
            let x1339 := !a746.1
            bif x1339 then
              impl_natGcd N a746.2.1 a746.2.2.1
                (fun x1340 =>
                  let x1341 := [(1 : Int)]
                  impl_natCmp N x1340 x1341
                    (fun x1342 =>
                      let x1343 := (decide (x1342 = (0 : Int)))
                      k0 x1343))
            else
              k0 false
        else
          k0 false
      else
        k0 false)
theorem impl_FracOk.ex : ∃ f : ((α : Type) → Nat → (Bool × (List Int) × (List Int) × Unit) → (Bool → Option α) → Option α), f = fun α => @impl_FracOk.b α := ⟨_, rfl⟩
noncomputable def impl_FracOk {α : Type} : Nat → (Bool × (List Int) × (List Int) × Unit) → (Bool → Option α) → Option α := Classical.choose impl_FracOk.ex α
theorem impl_FracOk.eq : @impl_FracOk = @impl_FracOk.b := funext fun α => congrFun (Classical.choose_spec impl_FracOk.ex) α

/-- loop.example/pinfold/impl.size -/
noncomputable def impl_size.b {α : Type} (N : Nat) (a1438 : Int) (k0 : Int → Option α) : Option α :=
  let x1439 := IntKind.i64.wrap (0 - a1438)
  let x1440 := maxI a1438 x1439
  k0 x1440
theorem impl_size.ex : ∃ f : ((α : Type) → Nat → Int → (Int → Option α) → Option α), f = fun α => @impl_size.b α := ⟨_, rfl⟩
noncomputable def impl_size {α : Type} : Nat → Int → (Int → Option α) → Option α := Classical.choose impl_size.ex α
theorem impl_size.eq : @impl_size = @impl_size.b := funext fun α => congrFun (Classical.choose_spec impl_size.ex) α

/-- loop.example/pinfold/impl.BitPartOf -/
noncomputable def impl_BitPartOf.b {α : Type} (N : Nat) (a1432 : Int) (a1433 : Int) (k0 : (Bool × Int × Int × Unit) → Bool → Option α) : Option α :=
  impl_formatOf N a1432
    (fun x1434 _ =>
      impl_BitOk N a1432 a1433
        (fun x1436 =>
          let x1437 := !x1436
          bif x1437 then
            k0 (false, ((0 : Int), ((0 : Int), ()))) false
          else
            impl_size N a1433
              (fun x1441 =>
                let x1442 := decide (x1441 = x1434.2.2.2.1)
                bif x1442 then
                  k0 (false, ((0 : Int), ((0 : Int), ()))) false
                else
                  impl_size N a1433
                    (fun x1443 =>
                      bif (decide (x1434.1 < (0 : Int))) then
                        none
                      else
                        let x1444 := (shlI .i64 (1 : Int) x1434.1)
                        let x1445 := (IntKind.i64.wrap (x1444 - (1 : Int)))
                        let x1446 := bitI .and .i64 x1443 x1445
                        impl_size N a1433
                          (fun x1447 =>
                            bif (decide (x1434.1 < (0 : Int))) then
                              none
                            else
                              let x1448 := shrI .i64 x1447 x1434.1
                              let x1449 := (decide (x1448 = (0 : Int)))
                              bif x1449 then
                                let x1450 := (decide (a1433 < (0 : Int)))
                                let x1451 := IntKind.u64.wrap x1446
                                k0 (x1450, (x1451, (x1434.2.1, ()))) true
                              else
                                let x1452 := (decide (a1433 < (0 : Int)))
                                bif (decide (x1434.1 < (0 : Int))) then
                                  none
                                else
                                  let x1453 := (shlI .i64 (1 : Int) x1434.1)
                                  let x1454 := bitI .or .i64 x1446 x1453
                                  let x1455 := IntKind.u64.wrap x1454
                                  let x1456 := IntKind.i64.wrap (x1434.2.1 + x1448)
                                  let x1457 := (IntKind.i64.wrap (x1456 - (1 : Int)))
                                  k0 (x1452, (x1455, (x1457, ()))) true)))))
theorem impl_BitPartOf.ex : ∃ f : ((α : Type) → Nat → Int → Int → ((Bool × Int × Int × Unit) → Bool → Option α) → Option α), f = fun α => @impl_BitPartOf.b α := ⟨_, rfl⟩
noncomputable def impl_BitPartOf {α : Type} : Nat → Int → Int → ((Bool × Int × Int × Unit) → Bool → Option α) → Option α := Classical.choose impl_BitPartOf.ex α
theorem impl_BitPartOf.eq : @impl_BitPartOf = @impl_BitPartOf.b := funext fun α => congrFun (Classical.choose_spec impl_BitPartOf.ex) α

noncomputable def impl_natOf_L0r {α : Type} (N : Nat) (next : Int → List Int → Option α) (k0 : List Int → Option α) (v1461 : Int) (v1462 : List Int) : Option α :=
  let x1463 := (decide ((0 : Int) < v1461))
  bif x1463 then
    let x1464 := (bitI .and .u64 v1461 (65535 : Int))
    let x1465 := IntKind.i64.wrap x1464
    let x1466 := [x1465]
    bif decide (v1462.length + x1466.length ≤ 8796093022208) then
      let x1467 := v1462 ++ x1466
      let x1468 := (shrI .u64 v1461 (16 : Int))
      next x1468 x1467
    else
      none
  else
    k0 v1462
noncomputable def impl_natOf_L0.b {α : Type} (N n : Nat) (v1461 : Int) (v1462 : List Int) (k0 : List Int → Option α) : Option α :=
  Nat.rec (motive := fun _ => Int → List Int → Option α) (fun _ _ => none) (fun _ next => impl_natOf_L0r N next k0) n v1461 v1462
theorem impl_natOf_L0.ex : ∃ f : ((α : Type) → Nat → Nat → Int → List Int → (List Int → Option α) → Option α), f = fun α => @impl_natOf_L0.b α := ⟨_, rfl⟩
noncomputable def impl_natOf_L0 {α : Type} : Nat → Nat → Int → List Int → (List Int → Option α) → Option α := Classical.choose impl_natOf_L0.ex α
theorem impl_natOf_L0.eq : @impl_natOf_L0 = @impl_natOf_L0.b := funext fun α => congrFun (Classical.choose_spec impl_natOf_L0.ex) α
theorem impl_natOf_L0.zero {α : Type} (N : Nat) (v1461 : Int) (v1462 : List Int) (k0 : List Int → Option α) : impl_natOf_L0 N 0 v1461 v1462 k0 = none := by rw [impl_natOf_L0.eq]; rfl
theorem impl_natOf_L0.succ {α : Type} (N n : Nat) (v1461 : Int) (v1462 : List Int) (k0 : List Int → Option α) : impl_natOf_L0 N (n + 1) v1461 v1462 k0 = impl_natOf_L0r N (fun y0 y1 => impl_natOf_L0 N n y0 y1 k0) k0 v1461 v1462 := by rw [impl_natOf_L0.eq]; rfl
/-- loop.example/pinfold/impl.natOf -/
noncomputable def impl_natOf.b {α : Type} (N : Nat) (a1460 : Int) (k0 : List Int → Option α) : Option α :=
  impl_natOf_L0 N N a1460 []
    (fun x1469 =>
      k0 x1469)
theorem impl_natOf.ex : ∃ f : ((α : Type) → Nat → Int → (List Int → Option α) → Option α), f = fun α => @impl_natOf.b α := ⟨_, rfl⟩
noncomputable def impl_natOf {α : Type} : Nat → Int → (List Int → Option α) → Option α := Classical.choose impl_natOf.ex α
theorem impl_natOf.eq : @impl_natOf = @impl_natOf.b := funext fun α => congrFun (Classical.choose_spec impl_natOf.ex) α

/-- loop.example/pinfold/impl.whole -/
noncomputable def impl_whole.b {α : Type} (N : Nat) (a1473 : Bool) (a1474 : List Int) (k0 : Bool → List Int → List Int → Option α) : Option α :=
  bif a1473 then
    let x1475 := ((a1474.length : Nat) : Int)
    let x1476 := (decide ((0 : Int) < x1475))
    let x1477 := [(1 : Int)]
    k0 x1476 a1474 x1477
  else
    let x1478 := [(1 : Int)]
    k0 false a1474 x1478
theorem impl_whole.ex : ∃ f : ((α : Type) → Nat → Bool → List Int → (Bool → List Int → List Int → Option α) → Option α), f = fun α => @impl_whole.b α := ⟨_, rfl⟩
noncomputable def impl_whole {α : Type} : Nat → Bool → List Int → (Bool → List Int → List Int → Option α) → Option α := Classical.choose impl_whole.ex α
theorem impl_whole.eq : @impl_whole = @impl_whole.b := funext fun α => congrFun (Classical.choose_spec impl_whole.ex) α

noncomputable def impl_lowest_J2.b {α : Type} (N : Nat) (v1489 : Bool) (v1490 : List Int) (v1491 : List Int) (v1492 : List Int) (v1493 : Bool) (v1494 : List Int) (v1495 : List Int) (k0 : Bool → List Int → List Int → Bool → List Int → List Int → Option α) : Option α :=
  let x1496 := [(1 : Int)]
  impl_natCmp N v1492 x1496
    (fun x1497 =>
      let x1498 := (!(decide (x1497 = (0 : Int))))
      bif x1498 then
        impl_natDiv N v1490 v1492
          (fun x1499 _ =>
            impl_natDiv N v1491 v1492
              (fun x1501 _ =>
                k0 v1489 x1499 x1501 v1493 v1494 v1495))
      else
        k0 v1489 v1490 v1491 v1493 v1494 v1495)
theorem impl_lowest_J2.ex : ∃ f : ((α : Type) → Nat → Bool → List Int → List Int → List Int → Bool → List Int → List Int → (Bool → List Int → List Int → Bool → List Int → List Int → Option α) → Option α), f = fun α => @impl_lowest_J2.b α := ⟨_, rfl⟩
noncomputable def impl_lowest_J2 {α : Type} : Nat → Bool → List Int → List Int → List Int → Bool → List Int → List Int → (Bool → List Int → List Int → Bool → List Int → List Int → Option α) → Option α := Classical.choose impl_lowest_J2.ex α
theorem impl_lowest_J2.eq : @impl_lowest_J2 = @impl_lowest_J2.b := funext fun α => congrFun (Classical.choose_spec impl_lowest_J2.ex) α
/-- loop.example/pinfold/impl.lowest -/
noncomputable def impl_lowest.b {α : Type} (N : Nat) (a1485 : Bool) (a1486 : List Int) (a1487 : List Int) (k0 : (Bool × (List Int) × (List Int) × Unit) → Option α) : Option α :=
  impl_natGcd N a1486 a1487
    (fun x1488 =>
      impl_lowest_J2 N a1485 a1486 a1487 x1488 false [] []
        (fun x1503 x1504 x1505 _ _ _ =>
          bif x1503 then
            let x1509 := ((x1504.length : Nat) : Int)
            let x1510 := (decide ((0 : Int) < x1509))
            k0 (x1510, (x1504, (x1505, ())))
          else
            k0 (false, (x1504, (x1505, ())))))
theorem impl_lowest.ex : ∃ f : ((α : Type) → Nat → Bool → List Int → List Int → ((Bool × (List Int) × (List Int) × Unit) → Option α) → Option α), f = fun α => @impl_lowest.b α := ⟨_, rfl⟩
noncomputable def impl_lowest {α : Type} : Nat → Bool → List Int → List Int → ((Bool × (List Int) × (List Int) × Unit) → Option α) → Option α := Classical.choose impl_lowest.ex α
theorem impl_lowest.eq : @impl_lowest = @impl_lowest.b := funext fun α => congrFun (Classical.choose_spec impl_lowest.ex) α

/-- loop.example/pinfold/impl.value -/
noncomputable def impl_value.b {α : Type} (N : Nat) (a1430 : Int) (a1431 : Int) (k0 : (Bool × (List Int) × (List Int) × Unit) → Option α) : Option α :=
  impl_BitPartOf N a1430 a1431
    (fun x1458 _ =>
      impl_natOf N x1458.2.1
        (fun x1470 =>
          let x1471 := (decide ((0 : Int) ≤ x1458.2.2.1))
          bif x1471 then
            impl_natShift N x1470 x1458.2.2.1
              (fun x1472 =>
                impl_whole N x1458.1 x1472
                  (fun x1479 x1480 x1481 =>
                    k0 (x1479, (x1480, (x1481, ())))))
          else
            let x1482 := [(1 : Int)]
            let x1483 := IntKind.i64.wrap (0 - x1458.2.2.1)
            impl_natShift N x1482 x1483
              (fun x1484 =>
                impl_lowest N x1458.1 x1470 x1484
                  (fun x1511 =>
                    k0 x1511))))
theorem impl_value.ex : ∃ f : ((α : Type) → Nat → Int → Int → ((Bool × (List Int) × (List Int) × Unit) → Option α) → Option α), f = fun α => @impl_value.b α := ⟨_, rfl⟩
noncomputable def impl_value {α : Type} : Nat → Int → Int → ((Bool × (List Int) × (List Int) × Unit) → Option α) → Option α := Classical.choose impl_value.ex α
theorem impl_value.eq : @impl_value = @impl_value.b := funext fun α => congrFun (Classical.choose_spec impl_value.ex) α

/-- (loop.example/pinfold/impl.Frac).sign -/
noncomputable def impl_Frac_sign.b {α : Type} (N : Nat) (a1515 : Bool × (List Int) × (List Int) × Unit) (k0 : Int → Option α) : Option α :=
  bif a1515.1 then
    k0 (-1 : Int)
  else
    let x1516 := ((a1515.2.1.length : Nat) : Int)
    let x1517 := (decide (x1516 = (0 : Int)))
    bif x1517 then
      k0 (0 : Int)
    else
      k0 (1 : Int)
theorem impl_Frac_sign.ex : ∃ f : ((α : Type) → Nat → (Bool × (List Int) × (List Int) × Unit) → (Int → Option α) → Option α), f = fun α => @impl_Frac_sign.b α := ⟨_, rfl⟩
noncomputable def impl_Frac_sign {α : Type} : Nat → (Bool × (List Int) × (List Int) × Unit) → (Int → Option α) → Option α := Classical.choose impl_Frac_sign.ex α
theorem impl_Frac_sign.eq : @impl_Frac_sign = @impl_Frac_sign.b := funext fun α => congrFun (Classical.choose_spec impl_Frac_sign.ex) α

noncomputable def impl_natMul_L2r {α : Type} (N : Nat) (next : List Int → Int → Int → Int → List Int → Int → Int → List Int → Int → Int → List Int → Option α) (k0 : List Int → Int → Int → List Int → Int → Int → List Int → Option α) (v1542 : List Int) (v1543 : Int) (v1544 : Int) (v1545 : Int) (v1546 : List Int) (v1547 : Int) (v1548 : Int) (v1549 : List Int) (v1550 : Int) (v1551 : Int) (v1552 : List Int) : Option α :=
  let x1553 := decide (v1551 < v1550)
  bif x1553 then
    bif (decide (v1551 < (0 : Int))) then
      none
    else
      match v1549[v1551.toNat]? with
      | some x1554 =>
        let x1555 := IntKind.i64.wrap (v1543 + v1551)
        bif (decide (x1555 < (0 : Int))) then
          none
        else
          bif decide (x1555.toNat < v1552.length) then
            match v1552[x1555.toNat]? with
            | some x1556 =>
              let x1557 := IntKind.i64.wrap (v1544 * x1554)
              let x1558 := IntKind.i64.wrap (x1556 + x1557)
              let x1559 := IntKind.i64.wrap (x1558 + v1545)
              let x1560 := IntKind.i64.wrap (v1543 + v1551)
              let x1561 := (bitI .and .i64 x1559 (65535 : Int))
              bif (decide (x1560 < (0 : Int))) then
                none
              else
                bif decide (x1560.toNat < v1552.length) then
                  match v1552[x1560.toNat]? with
                  | some x1562 =>
                    let x1563 := v1552.set x1560.toNat x1561
                    let x1564 := (shrI .i64 x1559 (16 : Int))
                    let x1565 := (IntKind.i64.wrap (v1551 + (1 : Int)))
                    next v1542 v1543 v1544 x1564 v1546 v1547 v1548 v1549 v1550 x1565 x1563
                  | none => none
                else
                  none
            | none => none
          else
            none
      | none => none
  else
    k0 v1542 v1543 v1545 v1546 v1547 v1548 v1552
noncomputable def impl_natMul_L2.b {α : Type} (N n : Nat) (v1542 : List Int) (v1543 : Int) (v1544 : Int) (v1545 : Int) (v1546 : List Int) (v1547 : Int) (v1548 : Int) (v1549 : List Int) (v1550 : Int) (v1551 : Int) (v1552 : List Int) (k0 : List Int → Int → Int → List Int → Int → Int → List Int → Option α) : Option α :=
  Nat.rec (motive := fun _ => List Int → Int → Int → Int → List Int → Int → Int → List Int → Int → Int → List Int → Option α) (fun _ _ _ _ _ _ _ _ _ _ _ => none) (fun _ next => impl_natMul_L2r N next k0) n v1542 v1543 v1544 v1545 v1546 v1547 v1548 v1549 v1550 v1551 v1552
theorem impl_natMul_L2.ex : ∃ f : ((α : Type) → Nat → Nat → List Int → Int → Int → Int → List Int → Int → Int → List Int → Int → Int → List Int → (List Int → Int → Int → List Int → Int → Int → List Int → Option α) → Option α), f = fun α => @impl_natMul_L2.b α := ⟨_, rfl⟩
noncomputable def impl_natMul_L2 {α : Type} : Nat → Nat → List Int → Int → Int → Int → List Int → Int → Int → List Int → Int → Int → List Int → (List Int → Int → Int → List Int → Int → Int → List Int → Option α) → Option α := Classical.choose impl_natMul_L2.ex α
theorem impl_natMul_L2.eq : @impl_natMul_L2 = @impl_natMul_L2.b := funext fun α => congrFun (Classical.choose_spec impl_natMul_L2.ex) α
theorem impl_natMul_L2.zero {α : Type} (N : Nat) (v1542 : List Int) (v1543 : Int) (v1544 : Int) (v1545 : Int) (v1546 : List Int) (v1547 : Int) (v1548 : Int) (v1549 : List Int) (v1550 : Int) (v1551 : Int) (v1552 : List Int) (k0 : List Int → Int → Int → List Int → Int → Int → List Int → Option α) : impl_natMul_L2 N 0 v1542 v1543 v1544 v1545 v1546 v1547 v1548 v1549 v1550 v1551 v1552 k0 = none := by rw [impl_natMul_L2.eq]; rfl
theorem impl_natMul_L2.succ {α : Type} (N n : Nat) (v1542 : List Int) (v1543 : Int) (v1544 : Int) (v1545 : Int) (v1546 : List Int) (v1547 : Int) (v1548 : Int) (v1549 : List Int) (v1550 : Int) (v1551 : Int) (v1552 : List Int) (k0 : List Int → Int → Int → List Int → Int → Int → List Int → Option α) : impl_natMul_L2 N (n + 1) v1542 v1543 v1544 v1545 v1546 v1547 v1548 v1549 v1550 v1551 v1552 k0 = impl_natMul_L2r N (fun y0 y1 y2 y3 y4 y5 y6 y7 y8 y9 y10 => impl_natMul_L2 N n y0 y1 y2 y3 y4 y5 y6 y7 y8 y9 y10 k0) k0 v1542 v1543 v1544 v1545 v1546 v1547 v1548 v1549 v1550 v1551 v1552 := by rw [impl_natMul_L2.eq]; rfl
noncomputable def impl_natMul_L0r {α : Type} (N : Nat) (next : List Int → List Int → Int → Int → List Int → Option α) (k0 : List Int → Option α) (v1534 : List Int) (v1535 : List Int) (v1536 : Int) (v1537 : Int) (v1538 : List Int) : Option α :=
  let x1539 := decide (v1537 < v1536)
  bif x1539 then
    bif (decide (v1537 < (0 : Int))) then
      none
    else
      match v1535[v1537.toNat]? with
      | some x1540 =>
        let x1541 := ((v1534.length : Nat) : Int)
        impl_natMul_L2 N N v1534 v1537 x1540 (0 : Int) v1535 v1536 v1537 v1534 x1541 (0 : Int) v1538
          (fun x1566 x1567 x1568 x1569 x1570 x1571 x1572 =>
            let x1573 := ((x1566.length : Nat) : Int)
            let x1574 := IntKind.i64.wrap (x1567 + x1573)
            bif (decide (x1574 < (0 : Int))) then
              none
            else
              bif decide (x1574.toNat < x1572.length) then
                match x1572[x1574.toNat]? with
                | some x1575 =>
                  let x1576 := IntKind.i64.wrap (x1575 + x1568)
                  bif (decide (x1574 < (0 : Int))) then
                    none
                  else
                    bif decide (x1574.toNat < x1572.length) then
                      match x1572[x1574.toNat]? with
                      | some x1577 =>
                        let x1578 := x1572.set x1574.toNat x1576
                        let x1579 := (IntKind.i64.wrap (x1571 + (1 : Int)))
                        next x1566 x1569 x1570 x1579 x1578
                      | none => none
                    else
                      none
                | none => none
              else
                none)
      | none => none
  else
    k0 v1538
noncomputable def impl_natMul_L0.b {α : Type} (N n : Nat) (v1534 : List Int) (v1535 : List Int) (v1536 : Int) (v1537 : Int) (v1538 : List Int) (k0 : List Int → Option α) : Option α :=
  Nat.rec (motive := fun _ => List Int → List Int → Int → Int → List Int → Option α) (fun _ _ _ _ _ => none) (fun _ next => impl_natMul_L0r N next k0) n v1534 v1535 v1536 v1537 v1538
theorem impl_natMul_L0.ex : ∃ f : ((α : Type) → Nat → Nat → List Int → List Int → Int → Int → List Int → (List Int → Option α) → Option α), f = fun α => @impl_natMul_L0.b α := ⟨_, rfl⟩
noncomputable def impl_natMul_L0 {α : Type} : Nat → Nat → List Int → List Int → Int → Int → List Int → (List Int → Option α) → Option α := Classical.choose impl_natMul_L0.ex α
theorem impl_natMul_L0.eq : @impl_natMul_L0 = @impl_natMul_L0.b := funext fun α => congrFun (Classical.choose_spec impl_natMul_L0.ex) α
theorem impl_natMul_L0.zero {α : Type} (N : Nat) (v1534 : List Int) (v1535 : List Int) (v1536 : Int) (v1537 : Int) (v1538 : List Int) (k0 : List Int → Option α) : impl_natMul_L0 N 0 v1534 v1535 v1536 v1537 v1538 k0 = none := by rw [impl_natMul_L0.eq]; rfl
theorem impl_natMul_L0.succ {α : Type} (N n : Nat) (v1534 : List Int) (v1535 : List Int) (v1536 : Int) (v1537 : Int) (v1538 : List Int) (k0 : List Int → Option α) : impl_natMul_L0 N (n + 1) v1534 v1535 v1536 v1537 v1538 k0 = impl_natMul_L0r N (fun y0 y1 y2 y3 y4 => impl_natMul_L0 N n y0 y1 y2 y3 y4 k0) k0 v1534 v1535 v1536 v1537 v1538 := by rw [impl_natMul_L0.eq]; rfl
/-- loop.example/pinfold/impl.natMul -/
noncomputable def impl_natMul.b {α : Type} (N : Nat) (a1526 : List Int) (a1527 : List Int) (k0 : List Int → Option α) : Option α :=
  let x1528 := ((a1526.length : Nat) : Int)
  let x1529 := ((a1527.length : Nat) : Int)
  let x1530 := IntKind.i64.wrap (x1528 + x1529)
  let x1531 := (IntKind.i64.wrap (x1530 + (1 : Int)))
  bif (decide ((0 : Int) ≤ x1531)) then
    bif decide (x1531 ≤ x1531) then
      bif (decide (x1531 ≤ ((8796093022208 : Nat) : Int))) then
        let x1532 := (List.replicate x1531.toNat (0 : Int))
        let x1533 := ((a1526.length : Nat) : Int)
        impl_natMul_L0 N N a1527 a1526 x1533 (0 : Int) x1532
          (fun x1580 =>
            impl_trim N x1580
              (fun x1581 =>
                k0 x1581))
      else
        none
    else
      none
  else
    none
theorem impl_natMul.ex : ∃ f : ((α : Type) → Nat → List Int → List Int → (List Int → Option α) → Option α), f = fun α => @impl_natMul.b α := ⟨_, rfl⟩
noncomputable def impl_natMul {α : Type} : Nat → List Int → List Int → (List Int → Option α) → Option α := Classical.choose impl_natMul.ex α
theorem impl_natMul.eq : @impl_natMul = @impl_natMul.b := funext fun α => congrFun (Classical.choose_spec impl_natMul.ex) α

/-- (loop.example/pinfold/impl.Frac).cmp -/
noncomputable def impl_Frac_cmp.b {α : Type} (N : Nat) (a1513 : Bool × (List Int) × (List Int) × Unit) (a1514 : Bool × (List Int) × (List Int) × Unit) (k0 : Int → Option α) : Option α :=
  impl_Frac_sign N a1513
    (fun x1518 =>
      impl_Frac_sign N a1514
        (fun x1519 =>
          let x1520 := !(decide (x1518 = x1519))
          bif x1520 then
            impl_Frac_sign N a1513
              (fun x1521 =>
                impl_Frac_sign N a1514
                  (fun x1522 =>
                    let x1523 := IntKind.i64.wrap (x1521 - x1522)
                    let x1524 := (minI (1 : Int) x1523)
                    let x1525 := (maxI (-1 : Int) x1524)
                    k0 x1525))
          else
            impl_natMul N a1513.2.1 a1514.2.2.1
              (fun x1582 =>
                impl_natMul N a1514.2.1 a1513.2.2.1
                  (fun x1583 =>
                    impl_natCmp N x1582 x1583
                      (fun x1584 =>
                        bif a1513.1 then
                          let x1585 := IntKind.i64.wrap (0 - x1584)
                          k0 x1585
                        else
                          k0 x1584)))))
theorem impl_Frac_cmp.ex : ∃ f : ((α : Type) → Nat → (Bool × (List Int) × (List Int) × Unit) → (Bool × (List Int) × (List Int) × Unit) → (Int → Option α) → Option α), f = fun α => @impl_Frac_cmp.b α := ⟨_, rfl⟩
noncomputable def impl_Frac_cmp {α : Type} : Nat → (Bool × (List Int) × (List Int) × Unit) → (Bool × (List Int) × (List Int) × Unit) → (Int → Option α) → Option α := Classical.choose impl_Frac_cmp.ex α
theorem impl_Frac_cmp.eq : @impl_Frac_cmp = @impl_Frac_cmp.b := funext fun α => congrFun (Classical.choose_spec impl_Frac_cmp.ex) α

/-- loop.example/pinfold/impl.PairHas -/
noncomputable def impl_PairHas.b {α : Type} (N : Nat) (a741 : Int) (a742 : Int × Int × Unit) (a743 : Bool × (List Int) × (List Int) × Unit) (k0 : Bool → Option α) : Option α :=
  impl_BitTop N a741
    (fun x744 =>
      impl_PairOk N a741 a742
        (fun x745 =>
          bif x745 then
            impl_FracOk N a743
              (fun x1344 =>
                bif x1344 then
                  let x1345 := IntKind.i64.wrap (0 - x744)
                  let x1346 := decide (a742.1 = x1345)
                  bif x1346 then
                    let x1347 := decide (a742.2.1 = x744)
                    bif x1347 then
                      k0 true
                    else
                      impl_value N a741 a742.2.1
                        (fun x1512 =>
                          impl_Frac_cmp N a743 x1512
                            (fun x1586 =>
                              let x1587 := (decide (x1586 ≤ (0 : Int)))
                              k0 x1587))
                  else
                    impl_value N a741 a742.1
                      (fun x1588 =>
                        impl_Frac_cmp N x1588 a743
                          (fun x1589 =>
                            let x1590 := (decide (x1589 ≤ (0 : Int)))
                            bif x1590 then
                              let x1591 := decide (a742.2.1 = x744)
                              bif x1591 then
                                k0 true
                              else
                                impl_value N a741 a742.2.1
                                  (fun x1592 =>
                                    impl_Frac_cmp N a743 x1592
                                      (fun x1593 =>
                                        let x1594 := (decide (x1593 ≤ (0 : Int)))
                                        k0 x1594))
                            else
                              k0 false))
                else
                  k0 false)
          else
            k0 false))
theorem impl_PairHas.ex : ∃ f : ((α : Type) → Nat → Int → (Int × Int × Unit) → (Bool × (List Int) × (List Int) × Unit) → (Bool → Option α) → Option α), f = fun α => @impl_PairHas.b α := ⟨_, rfl⟩
noncomputable def impl_PairHas {α : Type} : Nat → Int → (Int × Int × Unit) → (Bool × (List Int) × (List Int) × Unit) → (Bool → Option α) → Option α := Classical.choose impl_PairHas.ex α
theorem impl_PairHas.eq : @impl_PairHas = @impl_PairHas.b := funext fun α => congrFun (Classical.choose_spec impl_PairHas.ex) α

noncomputable def impl_BoxHas_L0r {α : Type} (N : Nat) (next : Int → List (Bool × (List Int) × (List Int) × Unit) → List (Int × Int × Unit) → Int → Int → Option α) (k0 : Bool → Option α) (k1 : Option α) (v733 : Int) (v734 : List (Bool × (List Int) × (List Int) × Unit)) (v735 : List (Int × Int × Unit)) (v736 : Int) (v737 : Int) : Option α :=
  let x738 := decide (v737 < v736)
  bif x738 then
    bif (decide (v737 < (0 : Int))) then
      none
    else
      match v735[v737.toNat]? with
      | some x739 =>
        bif (decide (v737 < (0 : Int))) then
          none
        else
          match v734[v737.toNat]? with
          | some x740 =>
            impl_PairHas N v733 x739 x740
              (fun x1595 =>
                let x1596 := !x1595
                bif x1596 then
                  k0 false
                else
                  let x1597 := (IntKind.i64.wrap (v737 + (1 : Int)))
                  next v733 v734 v735 v736 x1597)
          | none => none
      | none => none
  else
    k1
noncomputable def impl_BoxHas_L0.b {α : Type} (N n : Nat) (v733 : Int) (v734 : List (Bool × (List Int) × (List Int) × Unit)) (v735 : List (Int × Int × Unit)) (v736 : Int) (v737 : Int) (k0 : Bool → Option α) (k1 : Option α) : Option α :=
  Nat.rec (motive := fun _ => Int → List (Bool × (List Int) × (List Int) × Unit) → List (Int × Int × Unit) → Int → Int → Option α) (fun _ _ _ _ _ => none) (fun _ next => impl_BoxHas_L0r N next k0 k1) n v733 v734 v735 v736 v737
theorem impl_BoxHas_L0.ex : ∃ f : ((α : Type) → Nat → Nat → Int → List (Bool × (List Int) × (List Int) × Unit) → List (Int × Int × Unit) → Int → Int → (Bool → Option α) → (Option α) → Option α), f = fun α => @impl_BoxHas_L0.b α := ⟨_, rfl⟩
noncomputable def impl_BoxHas_L0 {α : Type} : Nat → Nat → Int → List (Bool × (List Int) × (List Int) × Unit) → List (Int × Int × Unit) → Int → Int → (Bool → Option α) → (Option α) → Option α := Classical.choose impl_BoxHas_L0.ex α
theorem impl_BoxHas_L0.eq : @impl_BoxHas_L0 = @impl_BoxHas_L0.b := funext fun α => congrFun (Classical.choose_spec impl_BoxHas_L0.ex) α
theorem impl_BoxHas_L0.zero {α : Type} (N : Nat) (v733 : Int) (v734 : List (Bool × (List Int) × (List Int) × Unit)) (v735 : List (Int × Int × Unit)) (v736 : Int) (v737 : Int) (k0 : Bool → Option α) (k1 : Option α) : impl_BoxHas_L0 N 0 v733 v734 v735 v736 v737 k0 k1 = none := by rw [impl_BoxHas_L0.eq]; rfl
theorem impl_BoxHas_L0.succ {α : Type} (N n : Nat) (v733 : Int) (v734 : List (Bool × (List Int) × (List Int) × Unit)) (v735 : List (Int × Int × Unit)) (v736 : Int) (v737 : Int) (k0 : Bool → Option α) (k1 : Option α) : impl_BoxHas_L0 N (n + 1) v733 v734 v735 v736 v737 k0 k1 = impl_BoxHas_L0r N (fun y0 y1 y2 y3 y4 => impl_BoxHas_L0 N n y0 y1 y2 y3 y4 k0 k1) k0 k1 v733 v734 v735 v736 v737 := by rw [impl_BoxHas_L0.eq]; rfl
/-- loop.example/pinfold/impl.BoxHas -/
noncomputable def impl_BoxHas.b {α : Type} (N : Nat) (a672 : Int) (a673 : (List (Int × Int × Unit)) × Unit) (a674 : List (Bool × (List Int) × (List Int) × Unit)) (k0 : Bool → Option α) : Option α :=
  impl_BoxOk N a672 a673
    (fun x727 =>
      let x728 := !x727
      bif x728 then
        k0 false
      else
        let x729 := ((a674.length : Nat) : Int)
        let x730 := ((a673.1.length : Nat) : Int)
        let x731 := !(decide (x729 = x730))
        bif x731 then
          k0 false
        else
          let x732 := ((a673.1.length : Nat) : Int)
          impl_BoxHas_L0 N N a672 a674 a673.1 x732 (0 : Int)
            (fun x1598 =>
              k0 x1598)
            (
              k0 true))
theorem impl_BoxHas.ex : ∃ f : ((α : Type) → Nat → Int → ((List (Int × Int × Unit)) × Unit) → List (Bool × (List Int) × (List Int) × Unit) → (Bool → Option α) → Option α), f = fun α => @impl_BoxHas.b α := ⟨_, rfl⟩
noncomputable def impl_BoxHas {α : Type} : Nat → Int → ((List (Int × Int × Unit)) × Unit) → List (Bool × (List Int) × (List Int) × Unit) → (Bool → Option α) → Option α := Classical.choose impl_BoxHas.ex α
theorem impl_BoxHas.eq : @impl_BoxHas = @impl_BoxHas.b := funext fun α => congrFun (Classical.choose_spec impl_BoxHas.ex) α

/-- loop.example/pinfold/laws.eqPair -/
noncomputable def laws_eqPair.b {α : Type} (N : Nat) (a1616 : Int × Int × Unit) (a1617 : Int × Int × Unit) (k0 : Bool → Option α) : Option α :=
  let x1618 := !(decide (a1616.1 = a1617.1))
  bif x1618 then
    k0 false
  else
    let x1619 := !(decide (a1616.2.1 = a1617.2.1))
    bif x1619 then
      k0 false
    else
      k0 true
theorem laws_eqPair.ex : ∃ f : ((α : Type) → Nat → (Int × Int × Unit) → (Int × Int × Unit) → (Bool → Option α) → Option α), f = fun α => @laws_eqPair.b α := ⟨_, rfl⟩
noncomputable def laws_eqPair {α : Type} : Nat → (Int × Int × Unit) → (Int × Int × Unit) → (Bool → Option α) → Option α := Classical.choose laws_eqPair.ex α
theorem laws_eqPair.eq : @laws_eqPair = @laws_eqPair.b := funext fun α => congrFun (Classical.choose_spec laws_eqPair.ex) α

noncomputable def laws_eqPairS_L0r {α : Type} (N : Nat) (next : List (Int × Int × Unit) → List (Int × Int × Unit) → Int → Option α) (k0 : Bool → Option α) (k1 : Option α) (v1609 : List (Int × Int × Unit)) (v1610 : List (Int × Int × Unit)) (v1611 : Int) : Option α :=
  let x1612 := ((v1609.length : Nat) : Int)
  let x1613 := decide (v1611 < x1612)
  bif x1613 then
    bif (decide (v1611 < (0 : Int))) then
      none
    else
      match v1609[v1611.toNat]? with
      | some x1614 =>
        bif (decide (v1611 < (0 : Int))) then
          none
        else
          match v1610[v1611.toNat]? with
          | some x1615 =>
            laws_eqPair N x1614 x1615
              (fun x1620 =>
                let x1621 := !x1620
                bif x1621 then
                  k0 false
                else
                  let x1622 := (IntKind.i64.wrap (v1611 + (1 : Int)))
                  next v1609 v1610 x1622)
          | none => none
      | none => none
  else
    k1
noncomputable def laws_eqPairS_L0.b {α : Type} (N n : Nat) (v1609 : List (Int × Int × Unit)) (v1610 : List (Int × Int × Unit)) (v1611 : Int) (k0 : Bool → Option α) (k1 : Option α) : Option α :=
  Nat.rec (motive := fun _ => List (Int × Int × Unit) → List (Int × Int × Unit) → Int → Option α) (fun _ _ _ => none) (fun _ next => laws_eqPairS_L0r N next k0 k1) n v1609 v1610 v1611
theorem laws_eqPairS_L0.ex : ∃ f : ((α : Type) → Nat → Nat → List (Int × Int × Unit) → List (Int × Int × Unit) → Int → (Bool → Option α) → (Option α) → Option α), f = fun α => @laws_eqPairS_L0.b α := ⟨_, rfl⟩
noncomputable def laws_eqPairS_L0 {α : Type} : Nat → Nat → List (Int × Int × Unit) → List (Int × Int × Unit) → Int → (Bool → Option α) → (Option α) → Option α := Classical.choose laws_eqPairS_L0.ex α
theorem laws_eqPairS_L0.eq : @laws_eqPairS_L0 = @laws_eqPairS_L0.b := funext fun α => congrFun (Classical.choose_spec laws_eqPairS_L0.ex) α
theorem laws_eqPairS_L0.zero {α : Type} (N : Nat) (v1609 : List (Int × Int × Unit)) (v1610 : List (Int × Int × Unit)) (v1611 : Int) (k0 : Bool → Option α) (k1 : Option α) : laws_eqPairS_L0 N 0 v1609 v1610 v1611 k0 k1 = none := by rw [laws_eqPairS_L0.eq]; rfl
theorem laws_eqPairS_L0.succ {α : Type} (N n : Nat) (v1609 : List (Int × Int × Unit)) (v1610 : List (Int × Int × Unit)) (v1611 : Int) (k0 : Bool → Option α) (k1 : Option α) : laws_eqPairS_L0 N (n + 1) v1609 v1610 v1611 k0 k1 = laws_eqPairS_L0r N (fun y0 y1 y2 => laws_eqPairS_L0 N n y0 y1 y2 k0 k1) k0 k1 v1609 v1610 v1611 := by rw [laws_eqPairS_L0.eq]; rfl
/-- loop.example/pinfold/laws.eqPairS -/
noncomputable def laws_eqPairS.b {α : Type} (N : Nat) (a1604 : List (Int × Int × Unit)) (a1605 : List (Int × Int × Unit)) (k0 : Bool → Option α) : Option α :=
  let x1606 := ((a1604.length : Nat) : Int)
  let x1607 := ((a1605.length : Nat) : Int)
  let x1608 := !(decide (x1606 = x1607))
  bif x1608 then
    k0 false
  else
    laws_eqPairS_L0 N N a1604 a1605 (0 : Int)
      (fun x1623 =>
        k0 x1623)
      (
        k0 true)
theorem laws_eqPairS.ex : ∃ f : ((α : Type) → Nat → List (Int × Int × Unit) → List (Int × Int × Unit) → (Bool → Option α) → Option α), f = fun α => @laws_eqPairS.b α := ⟨_, rfl⟩
noncomputable def laws_eqPairS {α : Type} : Nat → List (Int × Int × Unit) → List (Int × Int × Unit) → (Bool → Option α) → Option α := Classical.choose laws_eqPairS.ex α
theorem laws_eqPairS.eq : @laws_eqPairS = @laws_eqPairS.b := funext fun α => congrFun (Classical.choose_spec laws_eqPairS.ex) α

/-- loop.example/pinfold/laws.eqBox -/
noncomputable def laws_eqBox.b {α : Type} (N : Nat) (a1602 : (List (Int × Int × Unit)) × Unit) (a1603 : (List (Int × Int × Unit)) × Unit) (k0 : Bool → Option α) : Option α :=
  laws_eqPairS N a1602.1 a1603.1
    (fun x1624 =>
      let x1625 := !x1624
      bif x1625 then
        k0 false
      else
        k0 true)
theorem laws_eqBox.ex : ∃ f : ((α : Type) → Nat → ((List (Int × Int × Unit)) × Unit) → ((List (Int × Int × Unit)) × Unit) → (Bool → Option α) → Option α), f = fun α => @laws_eqBox.b α := ⟨_, rfl⟩
noncomputable def laws_eqBox {α : Type} : Nat → ((List (Int × Int × Unit)) × Unit) → ((List (Int × Int × Unit)) × Unit) → (Bool → Option α) → Option α := Classical.choose laws_eqBox.ex α
theorem laws_eqBox.eq : @laws_eqBox = @laws_eqBox.b := funext fun α => congrFun (Classical.choose_spec laws_eqBox.ex) α

noncomputable def laws_eqIntS_L0r {α : Type} (N : Nat) (next : List Int → List Int → Int → Option α) (k0 : Bool → Option α) (k1 : Option α) (v1649 : List Int) (v1650 : List Int) (v1651 : Int) : Option α :=
  let x1652 := ((v1649.length : Nat) : Int)
  let x1653 := decide (v1651 < x1652)
  bif x1653 then
    bif (decide (v1651 < (0 : Int))) then
      none
    else
      match v1649[v1651.toNat]? with
      | some x1654 =>
        bif (decide (v1651 < (0 : Int))) then
          none
        else
          match v1650[v1651.toNat]? with
          | some x1655 =>
            let x1656 := !(decide (x1654 = x1655))
            bif x1656 then
              k0 false
            else
              let x1657 := (IntKind.i64.wrap (v1651 + (1 : Int)))
              next v1649 v1650 x1657
          | none => none
      | none => none
  else
    k1
noncomputable def laws_eqIntS_L0.b {α : Type} (N n : Nat) (v1649 : List Int) (v1650 : List Int) (v1651 : Int) (k0 : Bool → Option α) (k1 : Option α) : Option α :=
  Nat.rec (motive := fun _ => List Int → List Int → Int → Option α) (fun _ _ _ => none) (fun _ next => laws_eqIntS_L0r N next k0 k1) n v1649 v1650 v1651
theorem laws_eqIntS_L0.ex : ∃ f : ((α : Type) → Nat → Nat → List Int → List Int → Int → (Bool → Option α) → (Option α) → Option α), f = fun α => @laws_eqIntS_L0.b α := ⟨_, rfl⟩
noncomputable def laws_eqIntS_L0 {α : Type} : Nat → Nat → List Int → List Int → Int → (Bool → Option α) → (Option α) → Option α := Classical.choose laws_eqIntS_L0.ex α
theorem laws_eqIntS_L0.eq : @laws_eqIntS_L0 = @laws_eqIntS_L0.b := funext fun α => congrFun (Classical.choose_spec laws_eqIntS_L0.ex) α
theorem laws_eqIntS_L0.zero {α : Type} (N : Nat) (v1649 : List Int) (v1650 : List Int) (v1651 : Int) (k0 : Bool → Option α) (k1 : Option α) : laws_eqIntS_L0 N 0 v1649 v1650 v1651 k0 k1 = none := by rw [laws_eqIntS_L0.eq]; rfl
theorem laws_eqIntS_L0.succ {α : Type} (N n : Nat) (v1649 : List Int) (v1650 : List Int) (v1651 : Int) (k0 : Bool → Option α) (k1 : Option α) : laws_eqIntS_L0 N (n + 1) v1649 v1650 v1651 k0 k1 = laws_eqIntS_L0r N (fun y0 y1 y2 => laws_eqIntS_L0 N n y0 y1 y2 k0 k1) k0 k1 v1649 v1650 v1651 := by rw [laws_eqIntS_L0.eq]; rfl
/-- loop.example/pinfold/laws.eqIntS -/
noncomputable def laws_eqIntS.b {α : Type} (N : Nat) (a1644 : List Int) (a1645 : List Int) (k0 : Bool → Option α) : Option α :=
  let x1646 := ((a1644.length : Nat) : Int)
  let x1647 := ((a1645.length : Nat) : Int)
  let x1648 := !(decide (x1646 = x1647))
  bif x1648 then
    k0 false
  else
    laws_eqIntS_L0 N N a1644 a1645 (0 : Int)
      (fun x1658 =>
        k0 x1658)
      (
        k0 true)
theorem laws_eqIntS.ex : ∃ f : ((α : Type) → Nat → List Int → List Int → (Bool → Option α) → Option α), f = fun α => @laws_eqIntS.b α := ⟨_, rfl⟩
noncomputable def laws_eqIntS {α : Type} : Nat → List Int → List Int → (Bool → Option α) → Option α := Classical.choose laws_eqIntS.ex α
theorem laws_eqIntS.eq : @laws_eqIntS = @laws_eqIntS.b := funext fun α => congrFun (Classical.choose_spec laws_eqIntS.ex) α

/-- loop.example/pinfold/laws.eqFrac -/
noncomputable def laws_eqFrac.b {α : Type} (N : Nat) (a1641 : Bool × (List Int) × (List Int) × Unit) (a1642 : Bool × (List Int) × (List Int) × Unit) (k0 : Bool → Option α) : Option α :=
  let x1643 := !(a1641.1 == a1642.1)
  bif x1643 then
    k0 false
  else
    laws_eqIntS N a1641.2.1 a1642.2.1
      (fun x1659 =>
        let x1660 := !x1659
        bif x1660 then
          k0 false
        else
          laws_eqIntS N a1641.2.2.1 a1642.2.2.1
            (fun x1661 =>
              let x1662 := !x1661
              bif x1662 then
                k0 false
              else
                k0 true))
theorem laws_eqFrac.ex : ∃ f : ((α : Type) → Nat → (Bool × (List Int) × (List Int) × Unit) → (Bool × (List Int) × (List Int) × Unit) → (Bool → Option α) → Option α), f = fun α => @laws_eqFrac.b α := ⟨_, rfl⟩
noncomputable def laws_eqFrac {α : Type} : Nat → (Bool × (List Int) × (List Int) × Unit) → (Bool × (List Int) × (List Int) × Unit) → (Bool → Option α) → Option α := Classical.choose laws_eqFrac.ex α
theorem laws_eqFrac.eq : @laws_eqFrac = @laws_eqFrac.b := funext fun α => congrFun (Classical.choose_spec laws_eqFrac.ex) α

noncomputable def laws_eqFracS_L0r {α : Type} (N : Nat) (next : List (Bool × (List Int) × (List Int) × Unit) → List (Bool × (List Int) × (List Int) × Unit) → Int → Option α) (k0 : Bool → Option α) (k1 : Option α) (v1634 : List (Bool × (List Int) × (List Int) × Unit)) (v1635 : List (Bool × (List Int) × (List Int) × Unit)) (v1636 : Int) : Option α :=
  let x1637 := ((v1634.length : Nat) : Int)
  let x1638 := decide (v1636 < x1637)
  bif x1638 then
    bif (decide (v1636 < (0 : Int))) then
      none
    else
      match v1634[v1636.toNat]? with
      | some x1639 =>
        bif (decide (v1636 < (0 : Int))) then
          none
        else
          match v1635[v1636.toNat]? with
          | some x1640 =>
            laws_eqFrac N x1639 x1640
              (fun x1663 =>
                let x1664 := !x1663
                bif x1664 then
                  k0 false
                else
                  let x1665 := (IntKind.i64.wrap (v1636 + (1 : Int)))
                  next v1634 v1635 x1665)
          | none => none
      | none => none
  else
    k1
noncomputable def laws_eqFracS_L0.b {α : Type} (N n : Nat) (v1634 : List (Bool × (List Int) × (List Int) × Unit)) (v1635 : List (Bool × (List Int) × (List Int) × Unit)) (v1636 : Int) (k0 : Bool → Option α) (k1 : Option α) : Option α :=
  Nat.rec (motive := fun _ => List (Bool × (List Int) × (List Int) × Unit) → List (Bool × (List Int) × (List Int) × Unit) → Int → Option α) (fun _ _ _ => none) (fun _ next => laws_eqFracS_L0r N next k0 k1) n v1634 v1635 v1636
theorem laws_eqFracS_L0.ex : ∃ f : ((α : Type) → Nat → Nat → List (Bool × (List Int) × (List Int) × Unit) → List (Bool × (List Int) × (List Int) × Unit) → Int → (Bool → Option α) → (Option α) → Option α), f = fun α => @laws_eqFracS_L0.b α := ⟨_, rfl⟩
noncomputable def laws_eqFracS_L0 {α : Type} : Nat → Nat → List (Bool × (List Int) × (List Int) × Unit) → List (Bool × (List Int) × (List Int) × Unit) → Int → (Bool → Option α) → (Option α) → Option α := Classical.choose laws_eqFracS_L0.ex α
theorem laws_eqFracS_L0.eq : @laws_eqFracS_L0 = @laws_eqFracS_L0.b := funext fun α => congrFun (Classical.choose_spec laws_eqFracS_L0.ex) α
theorem laws_eqFracS_L0.zero {α : Type} (N : Nat) (v1634 : List (Bool × (List Int) × (List Int) × Unit)) (v1635 : List (Bool × (List Int) × (List Int) × Unit)) (v1636 : Int) (k0 : Bool → Option α) (k1 : Option α) : laws_eqFracS_L0 N 0 v1634 v1635 v1636 k0 k1 = none := by rw [laws_eqFracS_L0.eq]; rfl
theorem laws_eqFracS_L0.succ {α : Type} (N n : Nat) (v1634 : List (Bool × (List Int) × (List Int) × Unit)) (v1635 : List (Bool × (List Int) × (List Int) × Unit)) (v1636 : Int) (k0 : Bool → Option α) (k1 : Option α) : laws_eqFracS_L0 N (n + 1) v1634 v1635 v1636 k0 k1 = laws_eqFracS_L0r N (fun y0 y1 y2 => laws_eqFracS_L0 N n y0 y1 y2 k0 k1) k0 k1 v1634 v1635 v1636 := by rw [laws_eqFracS_L0.eq]; rfl
/-- loop.example/pinfold/laws.eqFracS -/
noncomputable def laws_eqFracS.b {α : Type} (N : Nat) (a1629 : List (Bool × (List Int) × (List Int) × Unit)) (a1630 : List (Bool × (List Int) × (List Int) × Unit)) (k0 : Bool → Option α) : Option α :=
  let x1631 := ((a1629.length : Nat) : Int)
  let x1632 := ((a1630.length : Nat) : Int)
  let x1633 := !(decide (x1631 = x1632))
  bif x1633 then
    k0 false
  else
    laws_eqFracS_L0 N N a1629 a1630 (0 : Int)
      (fun x1666 =>
        k0 x1666)
      (
        k0 true)
theorem laws_eqFracS.ex : ∃ f : ((α : Type) → Nat → List (Bool × (List Int) × (List Int) × Unit) → List (Bool × (List Int) × (List Int) × Unit) → (Bool → Option α) → Option α), f = fun α => @laws_eqFracS.b α := ⟨_, rfl⟩
noncomputable def laws_eqFracS {α : Type} : Nat → List (Bool × (List Int) × (List Int) × Unit) → List (Bool × (List Int) × (List Int) × Unit) → (Bool → Option α) → Option α := Classical.choose laws_eqFracS.ex α
theorem laws_eqFracS.eq : @laws_eqFracS = @laws_eqFracS.b := funext fun α => congrFun (Classical.choose_spec laws_eqFracS.ex) α

/-- loop.example/pinfold/laws.FnExactBoxHas -/
noncomputable def laws_FnExactBoxHas.b {α : Type} (N : Nat) (a1 : Int) (a2 : (List (Int × Int × Unit)) × Unit) (a3 : List (Bool × (List Int) × (List Int) × Unit)) (k0 : Bool → Option α) : Option α :=
  laws_szBox N a2 (1048576 : Int)
    (fun x13 =>
      let x14 := (decide (x13 < (0 : Int)))
      bif x14 then
        k0 true
      else
        laws_szFracS N a3 x13
          (fun x42 =>
            let x43 := (decide (x42 < (0 : Int)))
            bif x43 then
              k0 true
            else
              laws_toBox N a2
                (fun x61 =>
                  laws_toFracS N a3
                    (fun x94 =>
                      spec_BoxHas N a1 (x61, ()) x94
                        (fun x669 =>
                          laws_toBox N a2
                            (fun x670 =>
                              laws_toFracS N a3
                                (fun x671 =>
                                  impl_BoxHas N a1 (x670, ()) x671
                                    (fun x1599 =>
                                      let x1600 := !(x1599 == x669)
                                      bif x1600 then
                                        k0 false
                                      else
                                        laws_toBox N a2
                                          (fun x1601 =>
                                            laws_eqBox N (x670, ()) (x1601, ())
                                              (fun x1626 =>
                                                let x1627 := !x1626
                                                bif x1627 then
                                                  k0 false
                                                else
                                                  laws_toFracS N a3
                                                    (fun x1628 =>
                                                      laws_eqFracS N x671 x1628
                                                        (fun x1667 =>
                                                          let x1668 := !x1667
                                                          bif x1668 then
                                                            k0 false
                                                          else
                                                            k0 true))))))))))))
theorem laws_FnExactBoxHas.ex : ∃ f : ((α : Type) → Nat → Int → ((List (Int × Int × Unit)) × Unit) → List (Bool × (List Int) × (List Int) × Unit) → (Bool → Option α) → Option α), f = fun α => @laws_FnExactBoxHas.b α := ⟨_, rfl⟩
noncomputable def laws_FnExactBoxHas {α : Type} : Nat → Int → ((List (Int × Int × Unit)) × Unit) → List (Bool × (List Int) × (List Int) × Unit) → (Bool → Option α) → Option α := Classical.choose laws_FnExactBoxHas.ex α
theorem laws_FnExactBoxHas.eq : @laws_FnExactBoxHas = @laws_FnExactBoxHas.b := funext fun α => congrFun (Classical.choose_spec laws_FnExactBoxHas.ex) α

end
end Go.Proofs.YtlbihmicbncdiaaAm
