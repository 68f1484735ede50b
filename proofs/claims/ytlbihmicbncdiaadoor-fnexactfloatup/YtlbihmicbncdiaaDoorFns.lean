/-
  The functions that the program computes, as the abstract machine tells them. Printed by amp.py.
-/
import Derived.Test.YtlbihmicbncdiaaDoorAmc
namespace Go.Proofs.YtlbihmicbncdiaaDoorAm
open Go
noncomputable section
set_option linter.unusedVariables false
set_option linter.unusedSimpArgs false

/-- loop.example/pinfold/laws.szIntS -/
noncomputable def laws_szIntS.b {α : Type} (N : Nat) (a5 : List Int) (a6 : Int) (k0 : Int → Option α) : Option α :=
  let x7 := ((a5.length : Nat) : Int)
  let x8 := IntKind.i64.wrap (a6 - x7)
  let x9 := (decide (x8 < (0 : Int)))
  bif x9 then
    k0 (-1 : Int)
  else
    k0 x8
theorem laws_szIntS.ex : ∃ f : ((α : Type) → Nat → List Int → Int → (Int → Option α) → Option α), f = fun α => @laws_szIntS.b α := ⟨_, rfl⟩
noncomputable def laws_szIntS {α : Type} : Nat → List Int → Int → (Int → Option α) → Option α := Classical.choose laws_szIntS.ex α
theorem laws_szIntS.eq : @laws_szIntS = @laws_szIntS.b := funext fun α => congrFun (Classical.choose_spec laws_szIntS.ex) α

/-- loop.example/pinfold/laws.szFrac -/
noncomputable def laws_szFrac.b {α : Type} (N : Nat) (a3 : Bool × (List Int) × (List Int) × Unit) (a4 : Int) (k0 : Int → Option α) : Option α :=
  laws_szIntS N a3.2.1 a4
    (fun x10 =>
      let x11 := (decide (x10 < (0 : Int)))
      bif x11 then
        k0 (-1 : Int)
      else
        laws_szIntS N a3.2.2.1 x10
          (fun x12 =>
            let x13 := (decide (x12 < (0 : Int)))
            bif x13 then
              k0 (-1 : Int)
            else
              k0 x12))
theorem laws_szFrac.ex : ∃ f : ((α : Type) → Nat → (Bool × (List Int) × (List Int) × Unit) → Int → (Int → Option α) → Option α), f = fun α => @laws_szFrac.b α := ⟨_, rfl⟩
noncomputable def laws_szFrac {α : Type} : Nat → (Bool × (List Int) × (List Int) × Unit) → Int → (Int → Option α) → Option α := Classical.choose laws_szFrac.ex α
theorem laws_szFrac.eq : @laws_szFrac = @laws_szFrac.b := funext fun α => congrFun (Classical.choose_spec laws_szFrac.ex) α

noncomputable def laws_toIntS_L0r {α : Type} (N : Nat) (next : List Int → Int → List Int → Option α) (k0 : List Int → Option α) (v20 : List Int) (v21 : Int) (v22 : List Int) : Option α :=
  let x23 := ((v20.length : Nat) : Int)
  let x24 := decide (v21 < x23)
  bif x24 then
    bif (decide (v21 < (0 : Int))) then
      none
    else
      match v20[v21.toNat]? with
      | some x25 =>
        bif (decide (v21 < (0 : Int))) then
          none
        else
          bif decide (v21.toNat < v22.length) then
            match v22[v21.toNat]? with
            | some x26 =>
              let x27 := v22.set v21.toNat x25
              let x28 := (IntKind.i64.wrap (v21 + (1 : Int)))
              next v20 x28 x27
            | none => none
          else
            none
      | none => none
  else
    k0 v22
noncomputable def laws_toIntS_L0.b {α : Type} (N n : Nat) (v20 : List Int) (v21 : Int) (v22 : List Int) (k0 : List Int → Option α) : Option α :=
  Nat.rec (motive := fun _ => List Int → Int → List Int → Option α) (fun _ _ _ => none) (fun _ next => laws_toIntS_L0r N next k0) n v20 v21 v22
theorem laws_toIntS_L0.ex : ∃ f : ((α : Type) → Nat → Nat → List Int → Int → List Int → (List Int → Option α) → Option α), f = fun α => @laws_toIntS_L0.b α := ⟨_, rfl⟩
noncomputable def laws_toIntS_L0 {α : Type} : Nat → Nat → List Int → Int → List Int → (List Int → Option α) → Option α := Classical.choose laws_toIntS_L0.ex α
theorem laws_toIntS_L0.eq : @laws_toIntS_L0 = @laws_toIntS_L0.b := funext fun α => congrFun (Classical.choose_spec laws_toIntS_L0.ex) α
theorem laws_toIntS_L0.zero {α : Type} (N : Nat) (v20 : List Int) (v21 : Int) (v22 : List Int) (k0 : List Int → Option α) : laws_toIntS_L0 N 0 v20 v21 v22 k0 = none := by rw [laws_toIntS_L0.eq]; rfl
theorem laws_toIntS_L0.succ {α : Type} (N n : Nat) (v20 : List Int) (v21 : Int) (v22 : List Int) (k0 : List Int → Option α) : laws_toIntS_L0 N (n + 1) v20 v21 v22 k0 = laws_toIntS_L0r N (fun y0 y1 y2 => laws_toIntS_L0 N n y0 y1 y2 k0) k0 v20 v21 v22 := by rw [laws_toIntS_L0.eq]; rfl
/-- loop.example/pinfold/laws.toIntS -/
noncomputable def laws_toIntS.b {α : Type} (N : Nat) (a17 : List Int) (k0 : List Int → Option α) : Option α :=
  let x18 := ((a17.length : Nat) : Int)
  bif (decide ((0 : Int) ≤ x18)) then
    bif decide (x18 ≤ x18) then
      bif (decide (x18 ≤ ((8796093022208 : Nat) : Int))) then
        let x19 := (List.replicate x18.toNat (0 : Int))
        laws_toIntS_L0 N N a17 (0 : Int) x19
          (fun x29 =>
            k0 x29)
      else
        none
    else
      none
  else
    none
theorem laws_toIntS.ex : ∃ f : ((α : Type) → Nat → List Int → (List Int → Option α) → Option α), f = fun α => @laws_toIntS.b α := ⟨_, rfl⟩
noncomputable def laws_toIntS {α : Type} : Nat → List Int → (List Int → Option α) → Option α := Classical.choose laws_toIntS.ex α
theorem laws_toIntS.eq : @laws_toIntS = @laws_toIntS.b := funext fun α => congrFun (Classical.choose_spec laws_toIntS.ex) α

/-- loop.example/pinfold/laws.toFrac -/
noncomputable def laws_toFrac.b {α : Type} (N : Nat) (a16 : Bool × (List Int) × (List Int) × Unit) (k0 : Bool → List Int → List Int → Option α) : Option α :=
  laws_toIntS N a16.2.1
    (fun x30 =>
      laws_toIntS N a16.2.2.1
        (fun x31 =>
          k0 a16.1 x30 x31))
theorem laws_toFrac.ex : ∃ f : ((α : Type) → Nat → (Bool × (List Int) × (List Int) × Unit) → (Bool → List Int → List Int → Option α) → Option α), f = fun α => @laws_toFrac.b α := ⟨_, rfl⟩
noncomputable def laws_toFrac {α : Type} : Nat → (Bool × (List Int) × (List Int) × Unit) → (Bool → List Int → List Int → Option α) → Option α := Classical.choose laws_toFrac.ex α
theorem laws_toFrac.eq : @laws_toFrac = @laws_toFrac.b := funext fun α => congrFun (Classical.choose_spec laws_toFrac.ex) α

/-- loop.example/pinfold/spec.l1Width -/
noncomputable def spec_l1Width.b {α : Type} (N : Nat) (a37 : Int) (k0 : Bool → Option α) : Option α :=
  let x38 := (decide (a37 = (32 : Int)))
  bif x38 then
    k0 true
  else
    let x39 := (decide (a37 = (64 : Int)))
    k0 x39
theorem spec_l1Width.ex : ∃ f : ((α : Type) → Nat → Int → (Bool → Option α) → Option α), f = fun α => @spec_l1Width.b α := ⟨_, rfl⟩
noncomputable def spec_l1Width {α : Type} : Nat → Int → (Bool → Option α) → Option α := Classical.choose spec_l1Width.ex α
theorem spec_l1Width.eq : @spec_l1Width = @spec_l1Width.b := funext fun α => congrFun (Classical.choose_spec spec_l1Width.ex) α

noncomputable def spec_NatOk_L0r {α : Type} (N : Nat) (next : List Int → Int → Option α) (k0 : Bool → Option α) (k1 : List Int → Option α) (v46 : List Int) (v47 : Int) : Option α :=
  let x48 := ((v46.length : Nat) : Int)
  let x49 := decide (v47 < x48)
  bif x49 then
    bif (decide (v47 < (0 : Int))) then
      none
    else
      match v46[v47.toNat]? with
      | some x50 =>
        let x51 := (decide (x50 < (0 : Int)))
        bif x51 then
          k0 false
        else
          bif (decide (v47 < (0 : Int))) then
            none
          else
            match v46[v47.toNat]? with
            | some x52 =>
              let x53 := (decide ((65536 : Int) ≤ x52))
              bif x53 then
                k0 false
              else
                let x54 := (IntKind.i64.wrap (v47 + (1 : Int)))
                next v46 x54
            | none => none
      | none => none
  else
    k1 v46
noncomputable def spec_NatOk_L0.b {α : Type} (N n : Nat) (v46 : List Int) (v47 : Int) (k0 : Bool → Option α) (k1 : List Int → Option α) : Option α :=
  Nat.rec (motive := fun _ => List Int → Int → Option α) (fun _ _ => none) (fun _ next => spec_NatOk_L0r N next k0 k1) n v46 v47
theorem spec_NatOk_L0.ex : ∃ f : ((α : Type) → Nat → Nat → List Int → Int → (Bool → Option α) → (List Int → Option α) → Option α), f = fun α => @spec_NatOk_L0.b α := ⟨_, rfl⟩
noncomputable def spec_NatOk_L0 {α : Type} : Nat → Nat → List Int → Int → (Bool → Option α) → (List Int → Option α) → Option α := Classical.choose spec_NatOk_L0.ex α
theorem spec_NatOk_L0.eq : @spec_NatOk_L0 = @spec_NatOk_L0.b := funext fun α => congrFun (Classical.choose_spec spec_NatOk_L0.ex) α
theorem spec_NatOk_L0.zero {α : Type} (N : Nat) (v46 : List Int) (v47 : Int) (k0 : Bool → Option α) (k1 : List Int → Option α) : spec_NatOk_L0 N 0 v46 v47 k0 k1 = none := by rw [spec_NatOk_L0.eq]; rfl
theorem spec_NatOk_L0.succ {α : Type} (N n : Nat) (v46 : List Int) (v47 : Int) (k0 : Bool → Option α) (k1 : List Int → Option α) : spec_NatOk_L0 N (n + 1) v46 v47 k0 k1 = spec_NatOk_L0r N (fun y0 y1 => spec_NatOk_L0 N n y0 y1 k0 k1) k0 k1 v46 v47 := by rw [spec_NatOk_L0.eq]; rfl
/-- loop.example/pinfold/spec.NatOk -/
noncomputable def spec_NatOk.b {α : Type} (N : Nat) (a43 : List Int) (k0 : Bool → Option α) : Option α :=
  let x44 := ((a43.length : Nat) : Int)
  let x45 := (decide ((256 : Int) < x44))
  bif x45 then
    k0 false
  else
    spec_NatOk_L0 N N a43 (0 : Int)
      (fun x55 =>
        k0 x55)
      (fun x56 =>
        let x57 := ((x56.length : Nat) : Int)
        let x58 := (decide (x57 = (0 : Int)))
        bif x58 then
          k0 true
        else
          let x59 := ((x56.length : Nat) : Int)
          let x60 := (IntKind.i64.wrap (x59 - (1 : Int)))
          bif (decide (x60 < (0 : Int))) then
            none
          else
            match x56[x60.toNat]? with
            | some x61 =>
              let x62 := (!(decide (x61 = (0 : Int))))
              k0 x62
            | none => none)
theorem spec_NatOk.ex : ∃ f : ((α : Type) → Nat → List Int → (Bool → Option α) → Option α), f = fun α => @spec_NatOk.b α := ⟨_, rfl⟩
noncomputable def spec_NatOk {α : Type} : Nat → List Int → (Bool → Option α) → Option α := Classical.choose spec_NatOk.ex α
theorem spec_NatOk.eq : @spec_NatOk = @spec_NatOk.b := funext fun α => congrFun (Classical.choose_spec spec_NatOk.ex) α

noncomputable def spec_l5Trim_L0r {α : Type} (N : Nat) (next : List Int → Int → Option α) (k0 : List Int → Int → Option α) (v75 : List Int) (v76 : Int) : Option α :=
  let x77 := (decide ((0 : Int) < v76))
  bif x77 then
    let x78 := (IntKind.i64.wrap (v76 - (1 : Int)))
    bif (decide (x78 < (0 : Int))) then
      none
    else
      match v75[x78.toNat]? with
      | some x79 =>
        let x80 := (decide (x79 = (0 : Int)))
        bif x80 then
          let x81 := (IntKind.i64.wrap (v76 - (1 : Int)))
          next v75 x81
        else
          k0 v75 v76
      | none => none
  else
    k0 v75 v76
noncomputable def spec_l5Trim_L0.b {α : Type} (N n : Nat) (v75 : List Int) (v76 : Int) (k0 : List Int → Int → Option α) : Option α :=
  Nat.rec (motive := fun _ => List Int → Int → Option α) (fun _ _ => none) (fun _ next => spec_l5Trim_L0r N next k0) n v75 v76
theorem spec_l5Trim_L0.ex : ∃ f : ((α : Type) → Nat → Nat → List Int → Int → (List Int → Int → Option α) → Option α), f = fun α => @spec_l5Trim_L0.b α := ⟨_, rfl⟩
noncomputable def spec_l5Trim_L0 {α : Type} : Nat → Nat → List Int → Int → (List Int → Int → Option α) → Option α := Classical.choose spec_l5Trim_L0.ex α
theorem spec_l5Trim_L0.eq : @spec_l5Trim_L0 = @spec_l5Trim_L0.b := funext fun α => congrFun (Classical.choose_spec spec_l5Trim_L0.ex) α
theorem spec_l5Trim_L0.zero {α : Type} (N : Nat) (v75 : List Int) (v76 : Int) (k0 : List Int → Int → Option α) : spec_l5Trim_L0 N 0 v75 v76 k0 = none := by rw [spec_l5Trim_L0.eq]; rfl
theorem spec_l5Trim_L0.succ {α : Type} (N n : Nat) (v75 : List Int) (v76 : Int) (k0 : List Int → Int → Option α) : spec_l5Trim_L0 N (n + 1) v75 v76 k0 = spec_l5Trim_L0r N (fun y0 y1 => spec_l5Trim_L0 N n y0 y1 k0) k0 v75 v76 := by rw [spec_l5Trim_L0.eq]; rfl
noncomputable def spec_l5Trim_L2r {α : Type} (N : Nat) (next : List Int → Int → Int → List Int → Option α) (k0 : List Int → Option α) (v84 : List Int) (v85 : Int) (v86 : Int) (v87 : List Int) : Option α :=
  let x88 := decide (v86 < v85)
  bif x88 then
    bif (decide (v86 < (0 : Int))) then
      none
    else
      match v84[v86.toNat]? with
      | some x89 =>
        let x90 := [x89]
        bif decide (v87.length + x90.length ≤ 8796093022208) then
          let x91 := v87 ++ x90
          let x92 := (IntKind.i64.wrap (v86 + (1 : Int)))
          next v84 v85 x92 x91
        else
          none
      | none => none
  else
    k0 v87
noncomputable def spec_l5Trim_L2.b {α : Type} (N n : Nat) (v84 : List Int) (v85 : Int) (v86 : Int) (v87 : List Int) (k0 : List Int → Option α) : Option α :=
  Nat.rec (motive := fun _ => List Int → Int → Int → List Int → Option α) (fun _ _ _ _ => none) (fun _ next => spec_l5Trim_L2r N next k0) n v84 v85 v86 v87
theorem spec_l5Trim_L2.ex : ∃ f : ((α : Type) → Nat → Nat → List Int → Int → Int → List Int → (List Int → Option α) → Option α), f = fun α => @spec_l5Trim_L2.b α := ⟨_, rfl⟩
noncomputable def spec_l5Trim_L2 {α : Type} : Nat → Nat → List Int → Int → Int → List Int → (List Int → Option α) → Option α := Classical.choose spec_l5Trim_L2.ex α
theorem spec_l5Trim_L2.eq : @spec_l5Trim_L2 = @spec_l5Trim_L2.b := funext fun α => congrFun (Classical.choose_spec spec_l5Trim_L2.ex) α
theorem spec_l5Trim_L2.zero {α : Type} (N : Nat) (v84 : List Int) (v85 : Int) (v86 : Int) (v87 : List Int) (k0 : List Int → Option α) : spec_l5Trim_L2 N 0 v84 v85 v86 v87 k0 = none := by rw [spec_l5Trim_L2.eq]; rfl
theorem spec_l5Trim_L2.succ {α : Type} (N n : Nat) (v84 : List Int) (v85 : Int) (v86 : Int) (v87 : List Int) (k0 : List Int → Option α) : spec_l5Trim_L2 N (n + 1) v84 v85 v86 v87 k0 = spec_l5Trim_L2r N (fun y0 y1 y2 y3 => spec_l5Trim_L2 N n y0 y1 y2 y3 k0) k0 v84 v85 v86 v87 := by rw [spec_l5Trim_L2.eq]; rfl
/-- loop.example/pinfold/spec.l5Trim -/
noncomputable def spec_l5Trim.b {α : Type} (N : Nat) (a73 : List Int) (k0 : List Int → Option α) : Option α :=
  let x74 := ((a73.length : Nat) : Int)
  spec_l5Trim_L0 N N a73 x74
    (fun x82 x83 =>
      spec_l5Trim_L2 N N x82 x83 (0 : Int) []
        (fun x93 =>
          k0 x93))
theorem spec_l5Trim.ex : ∃ f : ((α : Type) → Nat → List Int → (List Int → Option α) → Option α), f = fun α => @spec_l5Trim.b α := ⟨_, rfl⟩
noncomputable def spec_l5Trim {α : Type} : Nat → List Int → (List Int → Option α) → Option α := Classical.choose spec_l5Trim.ex α
theorem spec_l5Trim.eq : @spec_l5Trim = @spec_l5Trim.b := funext fun α => congrFun (Classical.choose_spec spec_l5Trim.ex) α

noncomputable def spec_l5Cmp_L0r {α : Type} (N : Nat) (next : List Int → List Int → Int → Option α) (k0 : Int → Option α) (k1 : Option α) (v112 : List Int) (v113 : List Int) (v114 : Int) : Option α :=
  let x115 := (decide ((0 : Int) ≤ v114))
  bif x115 then
    bif (decide (v114 < (0 : Int))) then
      none
    else
      match v112[v114.toNat]? with
      | some x116 =>
        bif (decide (v114 < (0 : Int))) then
          none
        else
          match v113[v114.toNat]? with
          | some x117 =>
            let x118 := decide (x116 < x117)
            bif x118 then
              k0 (-1 : Int)
            else
              bif (decide (v114 < (0 : Int))) then
                none
              else
                match v112[v114.toNat]? with
                | some x119 =>
                  bif (decide (v114 < (0 : Int))) then
                    none
                  else
                    match v113[v114.toNat]? with
                    | some x120 =>
                      let x121 := decide (x120 < x119)
                      bif x121 then
                        k0 (1 : Int)
                      else
                        let x122 := (IntKind.i64.wrap (v114 - (1 : Int)))
                        next v112 v113 x122
                    | none => none
                | none => none
          | none => none
      | none => none
  else
    k1
noncomputable def spec_l5Cmp_L0.b {α : Type} (N n : Nat) (v112 : List Int) (v113 : List Int) (v114 : Int) (k0 : Int → Option α) (k1 : Option α) : Option α :=
  Nat.rec (motive := fun _ => List Int → List Int → Int → Option α) (fun _ _ _ => none) (fun _ next => spec_l5Cmp_L0r N next k0 k1) n v112 v113 v114
theorem spec_l5Cmp_L0.ex : ∃ f : ((α : Type) → Nat → Nat → List Int → List Int → Int → (Int → Option α) → (Option α) → Option α), f = fun α => @spec_l5Cmp_L0.b α := ⟨_, rfl⟩
noncomputable def spec_l5Cmp_L0 {α : Type} : Nat → Nat → List Int → List Int → Int → (Int → Option α) → (Option α) → Option α := Classical.choose spec_l5Cmp_L0.ex α
theorem spec_l5Cmp_L0.eq : @spec_l5Cmp_L0 = @spec_l5Cmp_L0.b := funext fun α => congrFun (Classical.choose_spec spec_l5Cmp_L0.ex) α
theorem spec_l5Cmp_L0.zero {α : Type} (N : Nat) (v112 : List Int) (v113 : List Int) (v114 : Int) (k0 : Int → Option α) (k1 : Option α) : spec_l5Cmp_L0 N 0 v112 v113 v114 k0 k1 = none := by rw [spec_l5Cmp_L0.eq]; rfl
theorem spec_l5Cmp_L0.succ {α : Type} (N n : Nat) (v112 : List Int) (v113 : List Int) (v114 : Int) (k0 : Int → Option α) (k1 : Option α) : spec_l5Cmp_L0 N (n + 1) v112 v113 v114 k0 k1 = spec_l5Cmp_L0r N (fun y0 y1 y2 => spec_l5Cmp_L0 N n y0 y1 y2 k0 k1) k0 k1 v112 v113 v114 := by rw [spec_l5Cmp_L0.eq]; rfl
/-- loop.example/pinfold/spec.l5Cmp -/
noncomputable def spec_l5Cmp.b {α : Type} (N : Nat) (a102 : List Int) (a103 : List Int) (k0 : Int → Option α) : Option α :=
  let x104 := ((a102.length : Nat) : Int)
  let x105 := ((a103.length : Nat) : Int)
  let x106 := decide (x104 < x105)
  bif x106 then
    k0 (-1 : Int)
  else
    let x107 := ((a102.length : Nat) : Int)
    let x108 := ((a103.length : Nat) : Int)
    let x109 := decide (x108 < x107)
    bif x109 then
      k0 (1 : Int)
    else
      let x110 := ((a102.length : Nat) : Int)
      let x111 := (IntKind.i64.wrap (x110 - (1 : Int)))
      spec_l5Cmp_L0 N N a102 a103 x111
        (fun x123 =>
          k0 x123)
        (
          k0 (0 : Int))
theorem spec_l5Cmp.ex : ∃ f : ((α : Type) → Nat → List Int → List Int → (Int → Option α) → Option α), f = fun α => @spec_l5Cmp.b α := ⟨_, rfl⟩
noncomputable def spec_l5Cmp {α : Type} : Nat → List Int → List Int → (Int → Option α) → Option α := Classical.choose spec_l5Cmp.ex α
theorem spec_l5Cmp.eq : @spec_l5Cmp = @spec_l5Cmp.b := funext fun α => congrFun (Classical.choose_spec spec_l5Cmp.ex) α

noncomputable def spec_l5DivSmall_L0r {α : Type} (N : Nat) (next : List Int → Int → Int → Int → List Int → Option α) (k0 : Int → List Int → Option α) (v136 : List Int) (v137 : Int) (v138 : Int) (v139 : Int) (v140 : List Int) : Option α :=
  let x141 := (decide ((0 : Int) ≤ v139))
  bif x141 then
    let x142 := (IntKind.i64.wrap (v138 * (65536 : Int)))
    bif (decide (v139 < (0 : Int))) then
      none
    else
      match v136[v139.toNat]? with
      | some x143 =>
        let x144 := IntKind.i64.wrap (x142 + x143)
        bif (decide (v137 = (0 : Int))) then
          none
        else
          let x145 := IntKind.i64.wrap (Int.tdiv x144 v137)
          bif (decide (v139 < (0 : Int))) then
            none
          else
            bif decide (v139.toNat < v140.length) then
              match v140[v139.toNat]? with
              | some x146 =>
                let x147 := v140.set v139.toNat x145
                bif (decide (v137 = (0 : Int))) then
                  none
                else
                  let x148 := Int.tmod x144 v137
                  let x149 := (IntKind.i64.wrap (v139 - (1 : Int)))
                  next v136 v137 x148 x149 x147
              | none => none
            else
              none
      | none => none
  else
    k0 v138 v140
noncomputable def spec_l5DivSmall_L0.b {α : Type} (N n : Nat) (v136 : List Int) (v137 : Int) (v138 : Int) (v139 : Int) (v140 : List Int) (k0 : Int → List Int → Option α) : Option α :=
  Nat.rec (motive := fun _ => List Int → Int → Int → Int → List Int → Option α) (fun _ _ _ _ _ => none) (fun _ next => spec_l5DivSmall_L0r N next k0) n v136 v137 v138 v139 v140
theorem spec_l5DivSmall_L0.ex : ∃ f : ((α : Type) → Nat → Nat → List Int → Int → Int → Int → List Int → (Int → List Int → Option α) → Option α), f = fun α => @spec_l5DivSmall_L0.b α := ⟨_, rfl⟩
noncomputable def spec_l5DivSmall_L0 {α : Type} : Nat → Nat → List Int → Int → Int → Int → List Int → (Int → List Int → Option α) → Option α := Classical.choose spec_l5DivSmall_L0.ex α
theorem spec_l5DivSmall_L0.eq : @spec_l5DivSmall_L0 = @spec_l5DivSmall_L0.b := funext fun α => congrFun (Classical.choose_spec spec_l5DivSmall_L0.ex) α
theorem spec_l5DivSmall_L0.zero {α : Type} (N : Nat) (v136 : List Int) (v137 : Int) (v138 : Int) (v139 : Int) (v140 : List Int) (k0 : Int → List Int → Option α) : spec_l5DivSmall_L0 N 0 v136 v137 v138 v139 v140 k0 = none := by rw [spec_l5DivSmall_L0.eq]; rfl
theorem spec_l5DivSmall_L0.succ {α : Type} (N n : Nat) (v136 : List Int) (v137 : Int) (v138 : Int) (v139 : Int) (v140 : List Int) (k0 : Int → List Int → Option α) : spec_l5DivSmall_L0 N (n + 1) v136 v137 v138 v139 v140 k0 = spec_l5DivSmall_L0r N (fun y0 y1 y2 y3 y4 => spec_l5DivSmall_L0 N n y0 y1 y2 y3 y4 k0) k0 v136 v137 v138 v139 v140 := by rw [spec_l5DivSmall_L0.eq]; rfl
/-- loop.example/pinfold/spec.l5DivSmall -/
noncomputable def spec_l5DivSmall.b {α : Type} (N : Nat) (a130 : List Int) (a131 : Int) (k0 : Int → List Int → Option α) : Option α :=
  let x132 := ((a130.length : Nat) : Int)
  bif (decide ((0 : Int) ≤ x132)) then
    bif decide (x132 ≤ x132) then
      bif (decide (x132 ≤ ((8796093022208 : Nat) : Int))) then
        let x133 := (List.replicate x132.toNat (0 : Int))
        let x134 := ((a130.length : Nat) : Int)
        let x135 := (IntKind.i64.wrap (x134 - (1 : Int)))
        spec_l5DivSmall_L0 N N a130 a131 (0 : Int) x135 x133
          (fun x150 x151 =>
            spec_l5Trim N x151
              (fun x152 =>
                k0 x150 x152))
      else
        none
    else
      none
  else
    none
theorem spec_l5DivSmall.ex : ∃ f : ((α : Type) → Nat → List Int → Int → (Int → List Int → Option α) → Option α), f = fun α => @spec_l5DivSmall.b α := ⟨_, rfl⟩
noncomputable def spec_l5DivSmall {α : Type} : Nat → List Int → Int → (Int → List Int → Option α) → Option α := Classical.choose spec_l5DivSmall.ex α
theorem spec_l5DivSmall.eq : @spec_l5DivSmall = @spec_l5DivSmall.b := funext fun α => congrFun (Classical.choose_spec spec_l5DivSmall.ex) α

noncomputable def spec_NatOf_L0r {α : Type} (N : Nat) (next : Int → List Int → Option α) (k0 : List Int → Option α) (v157 : Int) (v158 : List Int) : Option α :=
  let x159 := (decide ((0 : Int) < v157))
  bif x159 then
    let x160 := (Int.tmod v157 (65536 : Int))
    let x161 := IntKind.i64.wrap x160
    let x162 := [x161]
    bif decide (v158.length + x162.length ≤ 8796093022208) then
      let x163 := v158 ++ x162
      let x164 := (IntKind.u64.wrap (Int.tdiv v157 (65536 : Int)))
      next x164 x163
    else
      none
  else
    k0 v158
noncomputable def spec_NatOf_L0.b {α : Type} (N n : Nat) (v157 : Int) (v158 : List Int) (k0 : List Int → Option α) : Option α :=
  Nat.rec (motive := fun _ => Int → List Int → Option α) (fun _ _ => none) (fun _ next => spec_NatOf_L0r N next k0) n v157 v158
theorem spec_NatOf_L0.ex : ∃ f : ((α : Type) → Nat → Nat → Int → List Int → (List Int → Option α) → Option α), f = fun α => @spec_NatOf_L0.b α := ⟨_, rfl⟩
noncomputable def spec_NatOf_L0 {α : Type} : Nat → Nat → Int → List Int → (List Int → Option α) → Option α := Classical.choose spec_NatOf_L0.ex α
theorem spec_NatOf_L0.eq : @spec_NatOf_L0 = @spec_NatOf_L0.b := funext fun α => congrFun (Classical.choose_spec spec_NatOf_L0.ex) α
theorem spec_NatOf_L0.zero {α : Type} (N : Nat) (v157 : Int) (v158 : List Int) (k0 : List Int → Option α) : spec_NatOf_L0 N 0 v157 v158 k0 = none := by rw [spec_NatOf_L0.eq]; rfl
theorem spec_NatOf_L0.succ {α : Type} (N n : Nat) (v157 : Int) (v158 : List Int) (k0 : List Int → Option α) : spec_NatOf_L0 N (n + 1) v157 v158 k0 = spec_NatOf_L0r N (fun y0 y1 => spec_NatOf_L0 N n y0 y1 k0) k0 v157 v158 := by rw [spec_NatOf_L0.eq]; rfl
/-- loop.example/pinfold/spec.NatOf -/
noncomputable def spec_NatOf.b {α : Type} (N : Nat) (a156 : Int) (k0 : List Int → Option α) : Option α :=
  spec_NatOf_L0 N N a156 []
    (fun x165 =>
      k0 x165)
theorem spec_NatOf.ex : ∃ f : ((α : Type) → Nat → Int → (List Int → Option α) → Option α), f = fun α => @spec_NatOf.b α := ⟨_, rfl⟩
noncomputable def spec_NatOf {α : Type} : Nat → Int → (List Int → Option α) → Option α := Classical.choose spec_NatOf.ex α
theorem spec_NatOf.eq : @spec_NatOf = @spec_NatOf.b := funext fun α => congrFun (Classical.choose_spec spec_NatOf.ex) α

noncomputable def spec_l5Mul_L2r {α : Type} (N : Nat) (next : List Int → List Int → Int → Int → Int → List Int → Option α) (k0 : List Int → List Int → Int → Int → List Int → Option α) (v188 : List Int) (v189 : List Int) (v190 : Int) (v191 : Int) (v192 : Int) (v193 : List Int) : Option α :=
  let x194 := ((v189.length : Nat) : Int)
  let x195 := decide (v192 < x194)
  bif x195 then
    let x196 := IntKind.i64.wrap (v190 + v192)
    bif (decide (x196 < (0 : Int))) then
      none
    else
      bif decide (x196.toNat < v193.length) then
        match v193[x196.toNat]? with
        | some x197 =>
          bif (decide (v190 < (0 : Int))) then
            none
          else
            match v188[v190.toNat]? with
            | some x198 =>
              bif (decide (v192 < (0 : Int))) then
                none
              else
                match v189[v192.toNat]? with
                | some x199 =>
                  let x200 := IntKind.i64.wrap (x198 * x199)
                  let x201 := IntKind.i64.wrap (x197 + x200)
                  let x202 := IntKind.i64.wrap (x201 + v191)
                  let x203 := IntKind.i64.wrap (v190 + v192)
                  let x204 := (Int.tmod x202 (65536 : Int))
                  bif (decide (x203 < (0 : Int))) then
                    none
                  else
                    bif decide (x203.toNat < v193.length) then
                      match v193[x203.toNat]? with
                      | some x205 =>
                        let x206 := v193.set x203.toNat x204
                        let x207 := (IntKind.i64.wrap (Int.tdiv x202 (65536 : Int)))
                        let x208 := (IntKind.i64.wrap (v192 + (1 : Int)))
                        next v188 v189 v190 x207 x208 x206
                      | none => none
                    else
                      none
                | none => none
            | none => none
        | none => none
      else
        none
  else
    k0 v188 v189 v190 v191 v193
noncomputable def spec_l5Mul_L2.b {α : Type} (N n : Nat) (v188 : List Int) (v189 : List Int) (v190 : Int) (v191 : Int) (v192 : Int) (v193 : List Int) (k0 : List Int → List Int → Int → Int → List Int → Option α) : Option α :=
  Nat.rec (motive := fun _ => List Int → List Int → Int → Int → Int → List Int → Option α) (fun _ _ _ _ _ _ => none) (fun _ next => spec_l5Mul_L2r N next k0) n v188 v189 v190 v191 v192 v193
theorem spec_l5Mul_L2.ex : ∃ f : ((α : Type) → Nat → Nat → List Int → List Int → Int → Int → Int → List Int → (List Int → List Int → Int → Int → List Int → Option α) → Option α), f = fun α => @spec_l5Mul_L2.b α := ⟨_, rfl⟩
noncomputable def spec_l5Mul_L2 {α : Type} : Nat → Nat → List Int → List Int → Int → Int → Int → List Int → (List Int → List Int → Int → Int → List Int → Option α) → Option α := Classical.choose spec_l5Mul_L2.ex α
theorem spec_l5Mul_L2.eq : @spec_l5Mul_L2 = @spec_l5Mul_L2.b := funext fun α => congrFun (Classical.choose_spec spec_l5Mul_L2.ex) α
theorem spec_l5Mul_L2.zero {α : Type} (N : Nat) (v188 : List Int) (v189 : List Int) (v190 : Int) (v191 : Int) (v192 : Int) (v193 : List Int) (k0 : List Int → List Int → Int → Int → List Int → Option α) : spec_l5Mul_L2 N 0 v188 v189 v190 v191 v192 v193 k0 = none := by rw [spec_l5Mul_L2.eq]; rfl
theorem spec_l5Mul_L2.succ {α : Type} (N n : Nat) (v188 : List Int) (v189 : List Int) (v190 : Int) (v191 : Int) (v192 : Int) (v193 : List Int) (k0 : List Int → List Int → Int → Int → List Int → Option α) : spec_l5Mul_L2 N (n + 1) v188 v189 v190 v191 v192 v193 k0 = spec_l5Mul_L2r N (fun y0 y1 y2 y3 y4 y5 => spec_l5Mul_L2 N n y0 y1 y2 y3 y4 y5 k0) k0 v188 v189 v190 v191 v192 v193 := by rw [spec_l5Mul_L2.eq]; rfl
noncomputable def spec_l5Mul_L0r {α : Type} (N : Nat) (next : List Int → List Int → Int → List Int → Option α) (k0 : List Int → Option α) (v182 : List Int) (v183 : List Int) (v184 : Int) (v185 : List Int) : Option α :=
  let x186 := ((v182.length : Nat) : Int)
  let x187 := decide (v184 < x186)
  bif x187 then
    spec_l5Mul_L2 N N v182 v183 v184 (0 : Int) (0 : Int) v185
      (fun x209 x210 x211 x212 x213 =>
        let x214 := ((x210.length : Nat) : Int)
        let x215 := IntKind.i64.wrap (x211 + x214)
        bif (decide (x215 < (0 : Int))) then
          none
        else
          bif decide (x215.toNat < x213.length) then
            match x213[x215.toNat]? with
            | some x216 =>
              let x217 := x213.set x215.toNat x212
              let x218 := (IntKind.i64.wrap (x211 + (1 : Int)))
              next x209 x210 x218 x217
            | none => none
          else
            none)
  else
    k0 v185
noncomputable def spec_l5Mul_L0.b {α : Type} (N n : Nat) (v182 : List Int) (v183 : List Int) (v184 : Int) (v185 : List Int) (k0 : List Int → Option α) : Option α :=
  Nat.rec (motive := fun _ => List Int → List Int → Int → List Int → Option α) (fun _ _ _ _ => none) (fun _ next => spec_l5Mul_L0r N next k0) n v182 v183 v184 v185
theorem spec_l5Mul_L0.ex : ∃ f : ((α : Type) → Nat → Nat → List Int → List Int → Int → List Int → (List Int → Option α) → Option α), f = fun α => @spec_l5Mul_L0.b α := ⟨_, rfl⟩
noncomputable def spec_l5Mul_L0 {α : Type} : Nat → Nat → List Int → List Int → Int → List Int → (List Int → Option α) → Option α := Classical.choose spec_l5Mul_L0.ex α
theorem spec_l5Mul_L0.eq : @spec_l5Mul_L0 = @spec_l5Mul_L0.b := funext fun α => congrFun (Classical.choose_spec spec_l5Mul_L0.ex) α
theorem spec_l5Mul_L0.zero {α : Type} (N : Nat) (v182 : List Int) (v183 : List Int) (v184 : Int) (v185 : List Int) (k0 : List Int → Option α) : spec_l5Mul_L0 N 0 v182 v183 v184 v185 k0 = none := by rw [spec_l5Mul_L0.eq]; rfl
theorem spec_l5Mul_L0.succ {α : Type} (N n : Nat) (v182 : List Int) (v183 : List Int) (v184 : Int) (v185 : List Int) (k0 : List Int → Option α) : spec_l5Mul_L0 N (n + 1) v182 v183 v184 v185 k0 = spec_l5Mul_L0r N (fun y0 y1 y2 y3 => spec_l5Mul_L0 N n y0 y1 y2 y3 k0) k0 v182 v183 v184 v185 := by rw [spec_l5Mul_L0.eq]; rfl
/-- loop.example/pinfold/spec.l5Mul -/
noncomputable def spec_l5Mul.b {α : Type} (N : Nat) (a176 : List Int) (a177 : List Int) (k0 : List Int → Option α) : Option α :=
  let x178 := ((a176.length : Nat) : Int)
  let x179 := ((a177.length : Nat) : Int)
  let x180 := IntKind.i64.wrap (x178 + x179)
  bif (decide ((0 : Int) ≤ x180)) then
    bif decide (x180 ≤ x180) then
      bif (decide (x180 ≤ ((8796093022208 : Nat) : Int))) then
        let x181 := (List.replicate x180.toNat (0 : Int))
        spec_l5Mul_L0 N N a176 a177 (0 : Int) x181
          (fun x219 =>
            spec_l5Trim N x219
              (fun x220 =>
                k0 x220))
      else
        none
    else
      none
  else
    none
theorem spec_l5Mul.ex : ∃ f : ((α : Type) → Nat → List Int → List Int → (List Int → Option α) → Option α), f = fun α => @spec_l5Mul.b α := ⟨_, rfl⟩
noncomputable def spec_l5Mul {α : Type} : Nat → List Int → List Int → (List Int → Option α) → Option α := Classical.choose spec_l5Mul.ex α
theorem spec_l5Mul.eq : @spec_l5Mul = @spec_l5Mul.b := funext fun α => congrFun (Classical.choose_spec spec_l5Mul.ex) α

/-- loop.example/pinfold/spec.l5Times -/
noncomputable def spec_l5Times.b {α : Type} (N : Nat) (a172 : List Int) (a173 : Int) (k0 : List Int → Option α) : Option α :=
  let x174 := (decide (a173 = (0 : Int)))
  bif x174 then
    k0 []
  else
    let x175 := [a173]
    spec_l5Mul N a172 x175
      (fun x221 =>
        k0 x221)
theorem spec_l5Times.ex : ∃ f : ((α : Type) → Nat → List Int → Int → (List Int → Option α) → Option α), f = fun α => @spec_l5Times.b α := ⟨_, rfl⟩
noncomputable def spec_l5Times {α : Type} : Nat → List Int → Int → (List Int → Option α) → Option α := Classical.choose spec_l5Times.ex α
theorem spec_l5Times.eq : @spec_l5Times = @spec_l5Times.b := funext fun α => congrFun (Classical.choose_spec spec_l5Times.ex) α

noncomputable def spec_l5Top_L0r {α : Type} (N : Nat) (next : List Int → Int → List Int → Option α) (k0 : List Int → Option α) (v234 : List Int) (v235 : Int) (v236 : List Int) : Option α :=
  let x237 := ((v234.length : Nat) : Int)
  let x238 := decide (v235 < x237)
  bif x238 then
    bif (decide (v235 < (0 : Int))) then
      none
    else
      match v234[v235.toNat]? with
      | some x239 =>
        let x240 := [x239]
        bif decide (v236.length + x240.length ≤ 8796093022208) then
          let x241 := v236 ++ x240
          let x242 := (IntKind.i64.wrap (v235 + (1 : Int)))
          next v234 x242 x241
        else
          none
      | none => none
  else
    k0 v236
noncomputable def spec_l5Top_L0.b {α : Type} (N n : Nat) (v234 : List Int) (v235 : Int) (v236 : List Int) (k0 : List Int → Option α) : Option α :=
  Nat.rec (motive := fun _ => List Int → Int → List Int → Option α) (fun _ _ _ => none) (fun _ next => spec_l5Top_L0r N next k0) n v234 v235 v236
theorem spec_l5Top_L0.ex : ∃ f : ((α : Type) → Nat → Nat → List Int → Int → List Int → (List Int → Option α) → Option α), f = fun α => @spec_l5Top_L0.b α := ⟨_, rfl⟩
noncomputable def spec_l5Top_L0 {α : Type} : Nat → Nat → List Int → Int → List Int → (List Int → Option α) → Option α := Classical.choose spec_l5Top_L0.ex α
theorem spec_l5Top_L0.eq : @spec_l5Top_L0 = @spec_l5Top_L0.b := funext fun α => congrFun (Classical.choose_spec spec_l5Top_L0.ex) α
theorem spec_l5Top_L0.zero {α : Type} (N : Nat) (v234 : List Int) (v235 : Int) (v236 : List Int) (k0 : List Int → Option α) : spec_l5Top_L0 N 0 v234 v235 v236 k0 = none := by rw [spec_l5Top_L0.eq]; rfl
theorem spec_l5Top_L0.succ {α : Type} (N n : Nat) (v234 : List Int) (v235 : Int) (v236 : List Int) (k0 : List Int → Option α) : spec_l5Top_L0 N (n + 1) v234 v235 v236 k0 = spec_l5Top_L0r N (fun y0 y1 y2 => spec_l5Top_L0 N n y0 y1 y2 k0) k0 v234 v235 v236 := by rw [spec_l5Top_L0.eq]; rfl
/-- loop.example/pinfold/spec.l5Top -/
noncomputable def spec_l5Top.b {α : Type} (N : Nat) (a232 : List Int) (a233 : Int) (k0 : List Int → Option α) : Option α :=
  spec_l5Top_L0 N N a232 a233 []
    (fun x243 =>
      k0 x243)
theorem spec_l5Top.ex : ∃ f : ((α : Type) → Nat → List Int → Int → (List Int → Option α) → Option α), f = fun α => @spec_l5Top.b α := ⟨_, rfl⟩
noncomputable def spec_l5Top {α : Type} : Nat → List Int → Int → (List Int → Option α) → Option α := Classical.choose spec_l5Top.ex α
theorem spec_l5Top.eq : @spec_l5Top = @spec_l5Top.b := funext fun α => congrFun (Classical.choose_spec spec_l5Top.ex) α

noncomputable def spec_l5Shl_L0r {α : Type} (N : Nat) (next : List Int → Int → List Int → Option α) (k0 : List Int → Option α) (v260 : List Int) (v261 : Int) (v262 : List Int) : Option α :=
  let x263 := ((v260.length : Nat) : Int)
  let x264 := decide (v261 < x263)
  bif x264 then
    bif (decide (v261 < (0 : Int))) then
      none
    else
      match v260[v261.toNat]? with
      | some x265 =>
        let x266 := [x265]
        bif decide (v262.length + x266.length ≤ 8796093022208) then
          let x267 := v262 ++ x266
          let x268 := (IntKind.i64.wrap (v261 + (1 : Int)))
          next v260 x268 x267
        else
          none
      | none => none
  else
    k0 v262
noncomputable def spec_l5Shl_L0.b {α : Type} (N n : Nat) (v260 : List Int) (v261 : Int) (v262 : List Int) (k0 : List Int → Option α) : Option α :=
  Nat.rec (motive := fun _ => List Int → Int → List Int → Option α) (fun _ _ _ => none) (fun _ next => spec_l5Shl_L0r N next k0) n v260 v261 v262
theorem spec_l5Shl_L0.ex : ∃ f : ((α : Type) → Nat → Nat → List Int → Int → List Int → (List Int → Option α) → Option α), f = fun α => @spec_l5Shl_L0.b α := ⟨_, rfl⟩
noncomputable def spec_l5Shl_L0 {α : Type} : Nat → Nat → List Int → Int → List Int → (List Int → Option α) → Option α := Classical.choose spec_l5Shl_L0.ex α
theorem spec_l5Shl_L0.eq : @spec_l5Shl_L0 = @spec_l5Shl_L0.b := funext fun α => congrFun (Classical.choose_spec spec_l5Shl_L0.ex) α
theorem spec_l5Shl_L0.zero {α : Type} (N : Nat) (v260 : List Int) (v261 : Int) (v262 : List Int) (k0 : List Int → Option α) : spec_l5Shl_L0 N 0 v260 v261 v262 k0 = none := by rw [spec_l5Shl_L0.eq]; rfl
theorem spec_l5Shl_L0.succ {α : Type} (N n : Nat) (v260 : List Int) (v261 : Int) (v262 : List Int) (k0 : List Int → Option α) : spec_l5Shl_L0 N (n + 1) v260 v261 v262 k0 = spec_l5Shl_L0r N (fun y0 y1 y2 => spec_l5Shl_L0 N n y0 y1 y2 k0) k0 v260 v261 v262 := by rw [spec_l5Shl_L0.eq]; rfl
/-- loop.example/pinfold/spec.l5Shl -/
noncomputable def spec_l5Shl.b {α : Type} (N : Nat) (a255 : List Int) (a256 : Int) (k0 : List Int → Option α) : Option α :=
  let x257 := ((a255.length : Nat) : Int)
  let x258 := (decide (x257 = (0 : Int)))
  bif x258 then
    k0 []
  else
    bif (decide ((0 : Int) ≤ a256)) then
      bif decide (a256 ≤ a256) then
        bif (decide (a256 ≤ ((8796093022208 : Nat) : Int))) then
          let x259 := (List.replicate a256.toNat (0 : Int))
          spec_l5Shl_L0 N N a255 (0 : Int) x259
            (fun x269 =>
              k0 x269)
        else
          none
      else
        none
    else
      none
theorem spec_l5Shl.ex : ∃ f : ((α : Type) → Nat → List Int → Int → (List Int → Option α) → Option α), f = fun α => @spec_l5Shl.b α := ⟨_, rfl⟩
noncomputable def spec_l5Shl {α : Type} : Nat → List Int → Int → (List Int → Option α) → Option α := Classical.choose spec_l5Shl.ex α
theorem spec_l5Shl.eq : @spec_l5Shl = @spec_l5Shl.b := funext fun α => congrFun (Classical.choose_spec spec_l5Shl.ex) α

/-- loop.example/pinfold/spec.l5At -/
noncomputable def spec_l5At.b {α : Type} (N : Nat) (a293 : List Int) (a294 : Int) (k0 : Int → Option α) : Option α :=
  let x295 := ((a293.length : Nat) : Int)
  let x296 := decide (a294 < x295)
  bif x296 then
    bif (decide (a294 < (0 : Int))) then
      none
    else
      match a293[a294.toNat]? with
      | some x297 =>
        k0 x297
      | none => none
  else
    k0 (0 : Int)
theorem spec_l5At.ex : ∃ f : ((α : Type) → Nat → List Int → Int → (Int → Option α) → Option α), f = fun α => @spec_l5At.b α := ⟨_, rfl⟩
noncomputable def spec_l5At {α : Type} : Nat → List Int → Int → (Int → Option α) → Option α := Classical.choose spec_l5At.ex α
theorem spec_l5At.eq : @spec_l5At = @spec_l5At.b := funext fun α => congrFun (Classical.choose_spec spec_l5At.ex) α

noncomputable def spec_l5Add_J2.b {α : Type} (N : Nat) (v277 : List Int) (v278 : List Int) (v279 : Int) (k0 : List Int → List Int → Int → Option α) : Option α :=
  let x280 := ((v278.length : Nat) : Int)
  let x281 := decide (v279 < x280)
  bif x281 then
    let x282 := ((v278.length : Nat) : Int)
    k0 v277 v278 x282
  else
    k0 v277 v278 v279
theorem spec_l5Add_J2.ex : ∃ f : ((α : Type) → Nat → List Int → List Int → Int → (List Int → List Int → Int → Option α) → Option α), f = fun α => @spec_l5Add_J2.b α := ⟨_, rfl⟩
noncomputable def spec_l5Add_J2 {α : Type} : Nat → List Int → List Int → Int → (List Int → List Int → Int → Option α) → Option α := Classical.choose spec_l5Add_J2.ex α
theorem spec_l5Add_J2.eq : @spec_l5Add_J2 = @spec_l5Add_J2.b := funext fun α => congrFun (Classical.choose_spec spec_l5Add_J2.ex) α
noncomputable def spec_l5Add_L0r {α : Type} (N : Nat) (next : List Int → List Int → Int → Int → Int → List Int → Option α) (k0 : Int → List Int → Option α) (v286 : List Int) (v287 : List Int) (v288 : Int) (v289 : Int) (v290 : Int) (v291 : List Int) : Option α :=
  let x292 := decide (v290 < v288)
  bif x292 then
    spec_l5At N v286 v290
      (fun x298 =>
        spec_l5At N v287 v290
          (fun x299 =>
            let x300 := IntKind.i64.wrap (x298 + x299)
            let x301 := IntKind.i64.wrap (x300 + v289)
            let x302 := (Int.tmod x301 (65536 : Int))
            let x303 := [x302]
            bif decide (v291.length + x303.length ≤ 8796093022208) then
              let x304 := v291 ++ x303
              let x305 := (IntKind.i64.wrap (Int.tdiv x301 (65536 : Int)))
              let x306 := (IntKind.i64.wrap (v290 + (1 : Int)))
              next v286 v287 v288 x305 x306 x304
            else
              none))
  else
    k0 v289 v291
noncomputable def spec_l5Add_L0.b {α : Type} (N n : Nat) (v286 : List Int) (v287 : List Int) (v288 : Int) (v289 : Int) (v290 : Int) (v291 : List Int) (k0 : Int → List Int → Option α) : Option α :=
  Nat.rec (motive := fun _ => List Int → List Int → Int → Int → Int → List Int → Option α) (fun _ _ _ _ _ _ => none) (fun _ next => spec_l5Add_L0r N next k0) n v286 v287 v288 v289 v290 v291
theorem spec_l5Add_L0.ex : ∃ f : ((α : Type) → Nat → Nat → List Int → List Int → Int → Int → Int → List Int → (Int → List Int → Option α) → Option α), f = fun α => @spec_l5Add_L0.b α := ⟨_, rfl⟩
noncomputable def spec_l5Add_L0 {α : Type} : Nat → Nat → List Int → List Int → Int → Int → Int → List Int → (Int → List Int → Option α) → Option α := Classical.choose spec_l5Add_L0.ex α
theorem spec_l5Add_L0.eq : @spec_l5Add_L0 = @spec_l5Add_L0.b := funext fun α => congrFun (Classical.choose_spec spec_l5Add_L0.ex) α
theorem spec_l5Add_L0.zero {α : Type} (N : Nat) (v286 : List Int) (v287 : List Int) (v288 : Int) (v289 : Int) (v290 : Int) (v291 : List Int) (k0 : Int → List Int → Option α) : spec_l5Add_L0 N 0 v286 v287 v288 v289 v290 v291 k0 = none := by rw [spec_l5Add_L0.eq]; rfl
theorem spec_l5Add_L0.succ {α : Type} (N n : Nat) (v286 : List Int) (v287 : List Int) (v288 : Int) (v289 : Int) (v290 : Int) (v291 : List Int) (k0 : Int → List Int → Option α) : spec_l5Add_L0 N (n + 1) v286 v287 v288 v289 v290 v291 k0 = spec_l5Add_L0r N (fun y0 y1 y2 y3 y4 y5 => spec_l5Add_L0 N n y0 y1 y2 y3 y4 y5 k0) k0 v286 v287 v288 v289 v290 v291 := by rw [spec_l5Add_L0.eq]; rfl
noncomputable def spec_l5Add_J12.b {α : Type} (N : Nat) (v309 : Int) (v310 : List Int) (k0 : List Int → Option α) : Option α :=
  let x311 := (decide ((0 : Int) < v309))
  bif x311 then
    let x312 := [v309]
    bif decide (v310.length + x312.length ≤ 8796093022208) then
      let x313 := v310 ++ x312
      k0 x313
    else
      none
  else
    k0 v310
theorem spec_l5Add_J12.ex : ∃ f : ((α : Type) → Nat → Int → List Int → (List Int → Option α) → Option α), f = fun α => @spec_l5Add_J12.b α := ⟨_, rfl⟩
noncomputable def spec_l5Add_J12 {α : Type} : Nat → Int → List Int → (List Int → Option α) → Option α := Classical.choose spec_l5Add_J12.ex α
theorem spec_l5Add_J12.eq : @spec_l5Add_J12 = @spec_l5Add_J12.b := funext fun α => congrFun (Classical.choose_spec spec_l5Add_J12.ex) α
/-- loop.example/pinfold/spec.l5Add -/
noncomputable def spec_l5Add.b {α : Type} (N : Nat) (a274 : List Int) (a275 : List Int) (k0 : List Int → Option α) : Option α :=
  let x276 := ((a274.length : Nat) : Int)
  spec_l5Add_J2 N a274 a275 x276
    (fun x283 x284 x285 =>
      spec_l5Add_L0 N N x283 x284 x285 (0 : Int) (0 : Int) []
        (fun x307 x308 =>
          spec_l5Add_J12 N x307 x308
            (fun x314 =>
              k0 x314)))
theorem spec_l5Add.ex : ∃ f : ((α : Type) → Nat → List Int → List Int → (List Int → Option α) → Option α), f = fun α => @spec_l5Add.b α := ⟨_, rfl⟩
noncomputable def spec_l5Add {α : Type} : Nat → List Int → List Int → (List Int → Option α) → Option α := Classical.choose spec_l5Add.ex α
theorem spec_l5Add.eq : @spec_l5Add = @spec_l5Add.b := funext fun α => congrFun (Classical.choose_spec spec_l5Add.ex) α

noncomputable def spec_l5Sub_J8.b {α : Type} (N : Nat) (v367 : List Int) (v368 : List Int) (v369 : Int) (v370 : Int) (v371 : Int) (v372 : List Int) (k0 : List Int → List Int → Int → Int → Int → List Int → Option α) : Option α :=
  let x373 := (decide (v371 < (0 : Int)))
  bif x373 then
    let x374 := (IntKind.i64.wrap (v371 + (65536 : Int)))
    k0 v367 v368 (1 : Int) v370 x374 v372
  else
    k0 v367 v368 v369 v370 v371 v372
theorem spec_l5Sub_J8.ex : ∃ f : ((α : Type) → Nat → List Int → List Int → Int → Int → Int → List Int → (List Int → List Int → Int → Int → Int → List Int → Option α) → Option α), f = fun α => @spec_l5Sub_J8.b α := ⟨_, rfl⟩
noncomputable def spec_l5Sub_J8 {α : Type} : Nat → List Int → List Int → Int → Int → Int → List Int → (List Int → List Int → Int → Int → Int → List Int → Option α) → Option α := Classical.choose spec_l5Sub_J8.ex α
theorem spec_l5Sub_J8.eq : @spec_l5Sub_J8 = @spec_l5Sub_J8.b := funext fun α => congrFun (Classical.choose_spec spec_l5Sub_J8.ex) α
noncomputable def spec_l5Sub_L0r {α : Type} (N : Nat) (next : List Int → List Int → Int → Int → List Int → Option α) (k0 : List Int → Option α) (v356 : List Int) (v357 : List Int) (v358 : Int) (v359 : Int) (v360 : List Int) : Option α :=
  let x361 := ((v356.length : Nat) : Int)
  let x362 := decide (v359 < x361)
  bif x362 then
    bif (decide (v359 < (0 : Int))) then
      none
    else
      match v356[v359.toNat]? with
      | some x363 =>
        spec_l5At N v357 v359
          (fun x364 =>
            let x365 := IntKind.i64.wrap (x363 - x364)
            let x366 := IntKind.i64.wrap (x365 - v358)
            spec_l5Sub_J8 N v356 v357 (0 : Int) v359 x366 v360
              (fun x375 x376 x377 x378 x379 x380 =>
                let x381 := [x379]
                bif decide (x380.length + x381.length ≤ 8796093022208) then
                  let x382 := x380 ++ x381
                  let x383 := (IntKind.i64.wrap (x378 + (1 : Int)))
                  next x375 x376 x377 x383 x382
                else
                  none))
      | none => none
  else
    k0 v360
noncomputable def spec_l5Sub_L0.b {α : Type} (N n : Nat) (v356 : List Int) (v357 : List Int) (v358 : Int) (v359 : Int) (v360 : List Int) (k0 : List Int → Option α) : Option α :=
  Nat.rec (motive := fun _ => List Int → List Int → Int → Int → List Int → Option α) (fun _ _ _ _ _ => none) (fun _ next => spec_l5Sub_L0r N next k0) n v356 v357 v358 v359 v360
theorem spec_l5Sub_L0.ex : ∃ f : ((α : Type) → Nat → Nat → List Int → List Int → Int → Int → List Int → (List Int → Option α) → Option α), f = fun α => @spec_l5Sub_L0.b α := ⟨_, rfl⟩
noncomputable def spec_l5Sub_L0 {α : Type} : Nat → Nat → List Int → List Int → Int → Int → List Int → (List Int → Option α) → Option α := Classical.choose spec_l5Sub_L0.ex α
theorem spec_l5Sub_L0.eq : @spec_l5Sub_L0 = @spec_l5Sub_L0.b := funext fun α => congrFun (Classical.choose_spec spec_l5Sub_L0.ex) α
theorem spec_l5Sub_L0.zero {α : Type} (N : Nat) (v356 : List Int) (v357 : List Int) (v358 : Int) (v359 : Int) (v360 : List Int) (k0 : List Int → Option α) : spec_l5Sub_L0 N 0 v356 v357 v358 v359 v360 k0 = none := by rw [spec_l5Sub_L0.eq]; rfl
theorem spec_l5Sub_L0.succ {α : Type} (N n : Nat) (v356 : List Int) (v357 : List Int) (v358 : Int) (v359 : Int) (v360 : List Int) (k0 : List Int → Option α) : spec_l5Sub_L0 N (n + 1) v356 v357 v358 v359 v360 k0 = spec_l5Sub_L0r N (fun y0 y1 y2 y3 y4 => spec_l5Sub_L0 N n y0 y1 y2 y3 y4 k0) k0 v356 v357 v358 v359 v360 := by rw [spec_l5Sub_L0.eq]; rfl
/-- loop.example/pinfold/spec.l5Sub -/
noncomputable def spec_l5Sub.b {α : Type} (N : Nat) (a354 : List Int) (a355 : List Int) (k0 : List Int → Option α) : Option α :=
  spec_l5Sub_L0 N N a354 a355 (0 : Int) (0 : Int) []
    (fun x384 =>
      spec_l5Trim N x384
        (fun x385 =>
          k0 x385))
theorem spec_l5Sub.ex : ∃ f : ((α : Type) → Nat → List Int → List Int → (List Int → Option α) → Option α), f = fun α => @spec_l5Sub.b α := ⟨_, rfl⟩
noncomputable def spec_l5Sub {α : Type} : Nat → List Int → List Int → (List Int → Option α) → Option α := Classical.choose spec_l5Sub.ex α
theorem spec_l5Sub.eq : @spec_l5Sub = @spec_l5Sub.b := funext fun α => congrFun (Classical.choose_spec spec_l5Sub.ex) α

noncomputable def spec_l5Div_J17.b {α : Type} (N : Nat) (v325 : Int) (v326 : Int) (v327 : Int) (v328 : Int) (v329 : List Int) (v330 : List Int) (v331 : List Int) (v332 : List Int) (k0 : Int → Int → Int → Int → List Int → List Int → List Int → List Int → Option α) : Option α :=
  let x333 := (decide ((65536 : Int) ≤ v328))
  bif x333 then
    k0 v325 v326 v327 (65535 : Int) v329 v330 v331 v332
  else
    k0 v325 v326 v327 v328 v329 v330 v331 v332
theorem spec_l5Div_J17.ex : ∃ f : ((α : Type) → Nat → Int → Int → Int → Int → List Int → List Int → List Int → List Int → (Int → Int → Int → Int → List Int → List Int → List Int → List Int → Option α) → Option α), f = fun α => @spec_l5Div_J17.b α := ⟨_, rfl⟩
noncomputable def spec_l5Div_J17 {α : Type} : Nat → Int → Int → Int → Int → List Int → List Int → List Int → List Int → (Int → Int → Int → Int → List Int → List Int → List Int → List Int → Option α) → Option α := Classical.choose spec_l5Div_J17.ex α
theorem spec_l5Div_J17.eq : @spec_l5Div_J17 = @spec_l5Div_J17.b := funext fun α => congrFun (Classical.choose_spec spec_l5Div_J17.ex) α
noncomputable def spec_l5Div_L2r {α : Type} (N : Nat) (next : Int → Int → Int → Int → List Int → List Int → List Int → List Int → List Int → Option α) (k0 : Int → Int → Int → Int → List Int → List Int → List Int → List Int → List Int → Option α) (v343 : Int) (v344 : Int) (v345 : Int) (v346 : Int) (v347 : List Int) (v348 : List Int) (v349 : List Int) (v350 : List Int) (v351 : List Int) : Option α :=
  spec_l5Cmp N v351 v350
    (fun x352 =>
      let x353 := (decide ((0 : Int) < x352))
      bif x353 then
        spec_l5Sub N v351 v348
          (fun x386 =>
            let x387 := (IntKind.i64.wrap (v346 - (1 : Int)))
            next v343 v344 v345 x387 v347 v348 v349 v350 x386)
      else
        k0 v343 v344 v345 v346 v347 v348 v349 v350 v351)
noncomputable def spec_l5Div_L2.b {α : Type} (N n : Nat) (v343 : Int) (v344 : Int) (v345 : Int) (v346 : Int) (v347 : List Int) (v348 : List Int) (v349 : List Int) (v350 : List Int) (v351 : List Int) (k0 : Int → Int → Int → Int → List Int → List Int → List Int → List Int → List Int → Option α) : Option α :=
  Nat.rec (motive := fun _ => Int → Int → Int → Int → List Int → List Int → List Int → List Int → List Int → Option α) (fun _ _ _ _ _ _ _ _ _ => none) (fun _ next => spec_l5Div_L2r N next k0) n v343 v344 v345 v346 v347 v348 v349 v350 v351
theorem spec_l5Div_L2.ex : ∃ f : ((α : Type) → Nat → Nat → Int → Int → Int → Int → List Int → List Int → List Int → List Int → List Int → (Int → Int → Int → Int → List Int → List Int → List Int → List Int → List Int → Option α) → Option α), f = fun α => @spec_l5Div_L2.b α := ⟨_, rfl⟩
noncomputable def spec_l5Div_L2 {α : Type} : Nat → Nat → Int → Int → Int → Int → List Int → List Int → List Int → List Int → List Int → (Int → Int → Int → Int → List Int → List Int → List Int → List Int → List Int → Option α) → Option α := Classical.choose spec_l5Div_L2.ex α
theorem spec_l5Div_L2.eq : @spec_l5Div_L2 = @spec_l5Div_L2.b := funext fun α => congrFun (Classical.choose_spec spec_l5Div_L2.ex) α
theorem spec_l5Div_L2.zero {α : Type} (N : Nat) (v343 : Int) (v344 : Int) (v345 : Int) (v346 : Int) (v347 : List Int) (v348 : List Int) (v349 : List Int) (v350 : List Int) (v351 : List Int) (k0 : Int → Int → Int → Int → List Int → List Int → List Int → List Int → List Int → Option α) : spec_l5Div_L2 N 0 v343 v344 v345 v346 v347 v348 v349 v350 v351 k0 = none := by rw [spec_l5Div_L2.eq]; rfl
theorem spec_l5Div_L2.succ {α : Type} (N n : Nat) (v343 : Int) (v344 : Int) (v345 : Int) (v346 : Int) (v347 : List Int) (v348 : List Int) (v349 : List Int) (v350 : List Int) (v351 : List Int) (k0 : Int → Int → Int → Int → List Int → List Int → List Int → List Int → List Int → Option α) : spec_l5Div_L2 N (n + 1) v343 v344 v345 v346 v347 v348 v349 v350 v351 k0 = spec_l5Div_L2r N (fun y0 y1 y2 y3 y4 y5 y6 y7 y8 => spec_l5Div_L2 N n y0 y1 y2 y3 y4 y5 y6 y7 y8 k0) k0 v343 v344 v345 v346 v347 v348 v349 v350 v351 := by rw [spec_l5Div_L2.eq]; rfl
noncomputable def spec_l5Div_L0r {α : Type} (N : Nat) (next : Int → Int → Int → List Int → List Int → List Int → List Int → Option α) (k0 : Int → List Int → List Int → Option α) (v247 : Int) (v248 : Int) (v249 : Int) (v250 : List Int) (v251 : List Int) (v252 : List Int) (v253 : List Int) : Option α :=
  let x254 := (decide ((0 : Int) ≤ v249))
  bif x254 then
    spec_l5Shl N v253 (1 : Int)
      (fun x270 =>
        bif (decide (v249 < (0 : Int))) then
          none
        else
          bif decide (v249.toNat < v250.length) then
            match v250[v249.toNat]? with
            | some x271 =>
              let x272 := IntKind.u64.wrap x271
              spec_NatOf N x272
                (fun x273 =>
                  spec_l5Add N x270 x273
                    (fun x315 =>
                      spec_l5Trim N x315
                        (fun x316 =>
                          spec_l5At N x316 v248
                            (fun x317 =>
                              let x318 := (IntKind.i64.wrap (x317 * (65536 : Int)))
                              let x319 := (IntKind.i64.wrap (v248 - (1 : Int)))
                              spec_l5At N x316 x319
                                (fun x320 =>
                                  let x321 := IntKind.i64.wrap (x318 + x320)
                                  let x322 := (IntKind.i64.wrap (v248 - (1 : Int)))
                                  bif (decide (x322 < (0 : Int))) then
                                    none
                                  else
                                    bif decide (x322.toNat < v251.length) then
                                      match v251[x322.toNat]? with
                                      | some x323 =>
                                        bif (decide (x323 = (0 : Int))) then
                                          none
                                        else
                                          let x324 := IntKind.i64.wrap (Int.tdiv x321 x323)
                                          spec_l5Div_J17 N v247 v248 v249 x324 v250 v251 v252 x316
                                            (fun x334 x335 x336 x337 x338 x339 x340 x341 =>
                                              spec_l5Times N x339 x337
                                                (fun x342 =>
                                                  spec_l5Div_L2 N N x334 x335 x336 x337 x338 x339 x340 x341 x342
                                                    (fun x388 x389 x390 x391 x392 x393 x394 x395 x396 =>
                                                      bif (decide (x390 < (0 : Int))) then
                                                        none
                                                      else
                                                        bif decide (x390.toNat < x394.length) then
                                                          match x394[x390.toNat]? with
                                                          | some x397 =>
                                                            let x398 := x394.set x390.toNat x391
                                                            spec_l5Sub N x395 x396
                                                              (fun x399 =>
                                                                let x400 := (IntKind.i64.wrap (x390 - (1 : Int)))
                                                                next x388 x389 x400 x392 x393 x398 x399)
                                                          | none => none
                                                        else
                                                          none)))
                                      | none => none
                                    else
                                      none)))))
            | none => none
          else
            none)
  else
    k0 v247 v252 v253
noncomputable def spec_l5Div_L0.b {α : Type} (N n : Nat) (v247 : Int) (v248 : Int) (v249 : Int) (v250 : List Int) (v251 : List Int) (v252 : List Int) (v253 : List Int) (k0 : Int → List Int → List Int → Option α) : Option α :=
  Nat.rec (motive := fun _ => Int → Int → Int → List Int → List Int → List Int → List Int → Option α) (fun _ _ _ _ _ _ _ => none) (fun _ next => spec_l5Div_L0r N next k0) n v247 v248 v249 v250 v251 v252 v253
theorem spec_l5Div_L0.ex : ∃ f : ((α : Type) → Nat → Nat → Int → Int → Int → List Int → List Int → List Int → List Int → (Int → List Int → List Int → Option α) → Option α), f = fun α => @spec_l5Div_L0.b α := ⟨_, rfl⟩
noncomputable def spec_l5Div_L0 {α : Type} : Nat → Nat → Int → Int → Int → List Int → List Int → List Int → List Int → (Int → List Int → List Int → Option α) → Option α := Classical.choose spec_l5Div_L0.ex α
theorem spec_l5Div_L0.eq : @spec_l5Div_L0 = @spec_l5Div_L0.b := funext fun α => congrFun (Classical.choose_spec spec_l5Div_L0.ex) α
theorem spec_l5Div_L0.zero {α : Type} (N : Nat) (v247 : Int) (v248 : Int) (v249 : Int) (v250 : List Int) (v251 : List Int) (v252 : List Int) (v253 : List Int) (k0 : Int → List Int → List Int → Option α) : spec_l5Div_L0 N 0 v247 v248 v249 v250 v251 v252 v253 k0 = none := by rw [spec_l5Div_L0.eq]; rfl
theorem spec_l5Div_L0.succ {α : Type} (N n : Nat) (v247 : Int) (v248 : Int) (v249 : Int) (v250 : List Int) (v251 : List Int) (v252 : List Int) (v253 : List Int) (k0 : Int → List Int → List Int → Option α) : spec_l5Div_L0 N (n + 1) v247 v248 v249 v250 v251 v252 v253 k0 = spec_l5Div_L0r N (fun y0 y1 y2 y3 y4 y5 y6 => spec_l5Div_L0 N n y0 y1 y2 y3 y4 y5 y6 k0) k0 v247 v248 v249 v250 v251 v252 v253 := by rw [spec_l5Div_L0.eq]; rfl
/-- loop.example/pinfold/spec.l5Div -/
noncomputable def spec_l5Div.b {α : Type} (N : Nat) (a100 : List Int) (a101 : List Int) (k0 : List Int → List Int → Option α) : Option α :=
  spec_l5Cmp N a100 a101
    (fun x124 =>
      let x125 := (decide (x124 < (0 : Int)))
      bif x125 then
        spec_l5Trim N a100
          (fun x126 =>
            k0 [] x126)
      else
        let x127 := ((a101.length : Nat) : Int)
        let x128 := (decide (x127 = (1 : Int)))
        bif x128 then
          match a101[0]? with
          | some x129 =>
            spec_l5DivSmall N a100 x129
              (fun x153 x154 =>
                let x155 := IntKind.u64.wrap x153
                spec_NatOf N x155
                  (fun x166 =>
                    k0 x154 x166))
          | none => none
        else
          let x167 := ((a101.length : Nat) : Int)
          let x168 := (IntKind.i64.wrap (x167 - (1 : Int)))
          bif (decide (x168 < (0 : Int))) then
            none
          else
            match a101[x168.toNat]? with
            | some x169 =>
              let x170 := (IntKind.i64.wrap (x169 + (1 : Int)))
              bif (decide (x170 = (0 : Int))) then
                none
              else
                let x171 := (IntKind.i64.wrap (Int.tdiv (65536 : Int) x170))
                spec_l5Times N a100 x171
                  (fun x222 =>
                    spec_l5Times N a101 x171
                      (fun x223 =>
                        let x224 := ((x223.length : Nat) : Int)
                        let x225 := ((x222.length : Nat) : Int)
                        let x226 := IntKind.i64.wrap (x225 - x224)
                        let x227 := (IntKind.i64.wrap (x226 + (1 : Int)))
                        bif (decide ((0 : Int) ≤ x227)) then
                          bif decide (x227 ≤ x227) then
                            bif (decide (x227 ≤ ((8796093022208 : Nat) : Int))) then
                              let x228 := (List.replicate x227.toNat (0 : Int))
                              let x229 := ((x222.length : Nat) : Int)
                              let x230 := IntKind.i64.wrap (x229 - x224)
                              let x231 := (IntKind.i64.wrap (x230 + (1 : Int)))
                              spec_l5Top N x222 x231
                                (fun x244 =>
                                  let x245 := ((x222.length : Nat) : Int)
                                  let x246 := IntKind.i64.wrap (x245 - x224)
                                  spec_l5Div_L0 N N x171 x224 x246 x222 x223 x228 x244
                                    (fun x401 x402 x403 =>
                                      spec_l5DivSmall N x403 x401
                                        (fun _ x405 =>
                                          spec_l5Trim N x402
                                            (fun x406 =>
                                              k0 x406 x405))))
                            else
                              none
                          else
                            none
                        else
                          none))
            | none => none)
theorem spec_l5Div.ex : ∃ f : ((α : Type) → Nat → List Int → List Int → (List Int → List Int → Option α) → Option α), f = fun α => @spec_l5Div.b α := ⟨_, rfl⟩
noncomputable def spec_l5Div {α : Type} : Nat → List Int → List Int → (List Int → List Int → Option α) → Option α := Classical.choose spec_l5Div.ex α
theorem spec_l5Div.eq : @spec_l5Div = @spec_l5Div.b := funext fun α => congrFun (Classical.choose_spec spec_l5Div.ex) α

noncomputable def spec_l5Gcd_L0r {α : Type} (N : Nat) (next : List Int → List Int → Option α) (k0 : List Int → Option α) (v96 : List Int) (v97 : List Int) : Option α :=
  let x98 := ((v97.length : Nat) : Int)
  let x99 := (decide ((0 : Int) < x98))
  bif x99 then
    spec_l5Div N v96 v97
      (fun _ x408 =>
        next v97 x408)
  else
    k0 v96
noncomputable def spec_l5Gcd_L0.b {α : Type} (N n : Nat) (v96 : List Int) (v97 : List Int) (k0 : List Int → Option α) : Option α :=
  Nat.rec (motive := fun _ => List Int → List Int → Option α) (fun _ _ => none) (fun _ next => spec_l5Gcd_L0r N next k0) n v96 v97
theorem spec_l5Gcd_L0.ex : ∃ f : ((α : Type) → Nat → Nat → List Int → List Int → (List Int → Option α) → Option α), f = fun α => @spec_l5Gcd_L0.b α := ⟨_, rfl⟩
noncomputable def spec_l5Gcd_L0 {α : Type} : Nat → Nat → List Int → List Int → (List Int → Option α) → Option α := Classical.choose spec_l5Gcd_L0.ex α
theorem spec_l5Gcd_L0.eq : @spec_l5Gcd_L0 = @spec_l5Gcd_L0.b := funext fun α => congrFun (Classical.choose_spec spec_l5Gcd_L0.ex) α
theorem spec_l5Gcd_L0.zero {α : Type} (N : Nat) (v96 : List Int) (v97 : List Int) (k0 : List Int → Option α) : spec_l5Gcd_L0 N 0 v96 v97 k0 = none := by rw [spec_l5Gcd_L0.eq]; rfl
theorem spec_l5Gcd_L0.succ {α : Type} (N n : Nat) (v96 : List Int) (v97 : List Int) (k0 : List Int → Option α) : spec_l5Gcd_L0 N (n + 1) v96 v97 k0 = spec_l5Gcd_L0r N (fun y0 y1 => spec_l5Gcd_L0 N n y0 y1 k0) k0 v96 v97 := by rw [spec_l5Gcd_L0.eq]; rfl
/-- loop.example/pinfold/spec.l5Gcd -/
noncomputable def spec_l5Gcd.b {α : Type} (N : Nat) (a71 : List Int) (a72 : List Int) (k0 : List Int → Option α) : Option α :=
  spec_l5Trim N a71
    (fun x94 =>
      spec_l5Trim N a72
        (fun x95 =>
          spec_l5Gcd_L0 N N x94 x95
            (fun x409 =>
              k0 x409)))
theorem spec_l5Gcd.ex : ∃ f : ((α : Type) → Nat → List Int → List Int → (List Int → Option α) → Option α), f = fun α => @spec_l5Gcd.b α := ⟨_, rfl⟩
noncomputable def spec_l5Gcd {α : Type} : Nat → List Int → List Int → (List Int → Option α) → Option α := Classical.choose spec_l5Gcd.ex α
theorem spec_l5Gcd.eq : @spec_l5Gcd = @spec_l5Gcd.b := funext fun α => congrFun (Classical.choose_spec spec_l5Gcd.ex) α

/-- loop.example/pinfold/spec.l6One -/
noncomputable def spec_l6One.b {α : Type} (N : Nat) (a411 : List Int) (k0 : Bool → Option α) : Option α :=
  let x412 := ((a411.length : Nat) : Int)
  let x413 := (decide (x412 = (1 : Int)))
  bif x413 then
    match a411[0]? with
    | some x414 =>
      let x415 := (decide (x414 = (1 : Int)))
      k0 x415
    | none => none
  else
    k0 false
theorem spec_l6One.ex : ∃ f : ((α : Type) → Nat → List Int → (Bool → Option α) → Option α), f = fun α => @spec_l6One.b α := ⟨_, rfl⟩
noncomputable def spec_l6One {α : Type} : Nat → List Int → (Bool → Option α) → Option α := Classical.choose spec_l6One.ex α
theorem spec_l6One.eq : @spec_l6One = @spec_l6One.b := funext fun α => congrFun (Classical.choose_spec spec_l6One.ex) α

/-- loop.example/pinfold/spec.FracOk -/
noncomputable def spec_FracOk.b {α : Type} (N : Nat) (a42 : Bool × (List Int) × (List Int) × Unit) (k0 : Bool → Option α) : Option α :=
  spec_NatOk N a42.2.1
    (fun x63 =>
      let x64 := !x63
      bif x64 then
        k0 false
      else
        spec_NatOk N a42.2.2.1
          (fun x65 =>
            let x66 := !x65
            bif x66 then
              k0 false
            else
              let x67 := ((a42.2.2.1.length : Nat) : Int)
              let x68 := (decide (x67 = (0 : Int)))
              bif x68 then
                k0 false
              else
                let x69 := ((a42.2.1.length : Nat) : Int)
                let x70 := (decide (x69 = (0 : Int)))
                bif x70 then
                  bif a42.1 then
                    k0 false
                  else
                    spec_l5Gcd N a42.2.1 a42.2.2.1
                      (fun x410 =>
                        spec_l6One N x410
                          (fun x416 =>
                            k0 x416))
                else
                  spec_l5Gcd N a42.2.1 a42.2.2.1
                    (fun x417 =>
                      spec_l6One N x417
                        (fun x418 =>
                          k0 x418))))
theorem spec_FracOk.ex : ∃ f : ((α : Type) → Nat → (Bool × (List Int) × (List Int) × Unit) → (Bool → Option α) → Option α), f = fun α => @spec_FracOk.b α := ⟨_, rfl⟩
noncomputable def spec_FracOk {α : Type} : Nat → (Bool × (List Int) × (List Int) × Unit) → (Bool → Option α) → Option α := Classical.choose spec_FracOk.ex α
theorem spec_FracOk.eq : @spec_FracOk = @spec_FracOk.b := funext fun α => congrFun (Classical.choose_spec spec_FracOk.ex) α

/-- loop.example/pinfold/spec.l8Frac -/
noncomputable def spec_l8Frac.b {α : Type} (N : Nat) (a421 : Bool × (List Int) × (List Int) × Unit) (k0 : (Bool × (List Int) × (List Int) × Unit) → Option α) : Option α :=
  k0 (a421.1, (a421.2.1, (a421.2.2.1, ())))
theorem spec_l8Frac.ex : ∃ f : ((α : Type) → Nat → (Bool × (List Int) × (List Int) × Unit) → ((Bool × (List Int) × (List Int) × Unit) → Option α) → Option α), f = fun α => @spec_l8Frac.b α := ⟨_, rfl⟩
noncomputable def spec_l8Frac {α : Type} : Nat → (Bool × (List Int) × (List Int) × Unit) → ((Bool × (List Int) × (List Int) × Unit) → Option α) → Option α := Classical.choose spec_l8Frac.ex α
theorem spec_l8Frac.eq : @spec_l8Frac = @spec_l8Frac.b := funext fun α => congrFun (Classical.choose_spec spec_l8Frac.ex) α

/-- loop.example/pinfold/spec.l1Frac -/
noncomputable def spec_l1Frac.b {α : Type} (N : Nat) (a430 : Int) (k0 : Int → Option α) : Option α :=
  let x431 := (decide (a430 = (32 : Int)))
  bif x431 then
    k0 (23 : Int)
  else
    k0 (52 : Int)
theorem spec_l1Frac.ex : ∃ f : ((α : Type) → Nat → Int → (Int → Option α) → Option α), f = fun α => @spec_l1Frac.b α := ⟨_, rfl⟩
noncomputable def spec_l1Frac {α : Type} : Nat → Int → (Int → Option α) → Option α := Classical.choose spec_l1Frac.ex α
theorem spec_l1Frac.eq : @spec_l1Frac = @spec_l1Frac.b := funext fun α => congrFun (Classical.choose_spec spec_l1Frac.ex) α

noncomputable def spec_l5Bits_L0r {α : Type} (N : Nat) (next : Int → Int → Option α) (k0 : Int → Option α) (v443 : Int) (v444 : Int) : Option α :=
  let x445 := (decide ((0 : Int) < v444))
  bif x445 then
    let x446 := (IntKind.i64.wrap (v443 + (1 : Int)))
    let x447 := (IntKind.i64.wrap (Int.tdiv v444 (2 : Int)))
    next x446 x447
  else
    k0 v443
noncomputable def spec_l5Bits_L0.b {α : Type} (N n : Nat) (v443 : Int) (v444 : Int) (k0 : Int → Option α) : Option α :=
  Nat.rec (motive := fun _ => Int → Int → Option α) (fun _ _ => none) (fun _ next => spec_l5Bits_L0r N next k0) n v443 v444
theorem spec_l5Bits_L0.ex : ∃ f : ((α : Type) → Nat → Nat → Int → Int → (Int → Option α) → Option α), f = fun α => @spec_l5Bits_L0.b α := ⟨_, rfl⟩
noncomputable def spec_l5Bits_L0 {α : Type} : Nat → Nat → Int → Int → (Int → Option α) → Option α := Classical.choose spec_l5Bits_L0.ex α
theorem spec_l5Bits_L0.eq : @spec_l5Bits_L0 = @spec_l5Bits_L0.b := funext fun α => congrFun (Classical.choose_spec spec_l5Bits_L0.ex) α
theorem spec_l5Bits_L0.zero {α : Type} (N : Nat) (v443 : Int) (v444 : Int) (k0 : Int → Option α) : spec_l5Bits_L0 N 0 v443 v444 k0 = none := by rw [spec_l5Bits_L0.eq]; rfl
theorem spec_l5Bits_L0.succ {α : Type} (N n : Nat) (v443 : Int) (v444 : Int) (k0 : Int → Option α) : spec_l5Bits_L0 N (n + 1) v443 v444 k0 = spec_l5Bits_L0r N (fun y0 y1 => spec_l5Bits_L0 N n y0 y1 k0) k0 v443 v444 := by rw [spec_l5Bits_L0.eq]; rfl
/-- loop.example/pinfold/spec.l5Bits -/
noncomputable def spec_l5Bits.b {α : Type} (N : Nat) (a434 : List Int) (k0 : Int → Option α) : Option α :=
  let x435 := ((a434.length : Nat) : Int)
  let x436 := (decide (x435 = (0 : Int)))
  bif x436 then
    k0 (0 : Int)
  else
    let x437 := ((a434.length : Nat) : Int)
    let x438 := (IntKind.i64.wrap (x437 - (1 : Int)))
    let x439 := (IntKind.i64.wrap ((16 : Int) * x438))
    let x440 := ((a434.length : Nat) : Int)
    let x441 := (IntKind.i64.wrap (x440 - (1 : Int)))
    bif (decide (x441 < (0 : Int))) then
      none
    else
      match a434[x441.toNat]? with
      | some x442 =>
        spec_l5Bits_L0 N N x439 x442
          (fun x448 =>
            k0 x448)
      | none => none
theorem spec_l5Bits.ex : ∃ f : ((α : Type) → Nat → List Int → (Int → Option α) → Option α), f = fun α => @spec_l5Bits.b α := ⟨_, rfl⟩
noncomputable def spec_l5Bits {α : Type} : Nat → List Int → (Int → Option α) → Option α := Classical.choose spec_l5Bits.ex α
theorem spec_l5Bits.eq : @spec_l5Bits = @spec_l5Bits.b := funext fun α => congrFun (Classical.choose_spec spec_l5Bits.ex) α

/-- loop.example/pinfold/spec.l1Least -/
noncomputable def spec_l1Least.b {α : Type} (N : Nat) (a457 : Int) (k0 : Int → Option α) : Option α :=
  let x458 := (decide (a457 = (32 : Int)))
  bif x458 then
    k0 (-149 : Int)
  else
    k0 (-1074 : Int)
theorem spec_l1Least.ex : ∃ f : ((α : Type) → Nat → Int → (Int → Option α) → Option α), f = fun α => @spec_l1Least.b α := ⟨_, rfl⟩
noncomputable def spec_l1Least {α : Type} : Nat → Int → (Int → Option α) → Option α := Classical.choose spec_l1Least.ex α
theorem spec_l1Least.eq : @spec_l1Least = @spec_l1Least.b := funext fun α => congrFun (Classical.choose_spec spec_l1Least.ex) α

/-- loop.example/pinfold/spec.l5Pow2 -/
noncomputable def spec_l5Pow2.b {α : Type} (N : Nat) (a492 : Int) (k0 : List Int → Option α) : Option α :=
  let x493 := (Int.tmod a492 (16 : Int))
  let x494 := IntKind.u64.wrap x493
  bif (decide (x494 < (0 : Int))) then
    none
  else
    let x495 := (shlI .i64 (1 : Int) x494)
    let x496 := [x495]
    let x497 := (IntKind.i64.wrap (Int.tdiv a492 (16 : Int)))
    spec_l5Shl N x496 x497
      (fun x498 =>
        k0 x498)
theorem spec_l5Pow2.ex : ∃ f : ((α : Type) → Nat → Int → (List Int → Option α) → Option α), f = fun α => @spec_l5Pow2.b α := ⟨_, rfl⟩
noncomputable def spec_l5Pow2 {α : Type} : Nat → Int → (List Int → Option α) → Option α := Classical.choose spec_l5Pow2.ex α
theorem spec_l5Pow2.eq : @spec_l5Pow2 = @spec_l5Pow2.b := funext fun α => congrFun (Classical.choose_spec spec_l5Pow2.ex) α

noncomputable def spec_l8Scaled_J3.b {α : Type} (N : Nat) (v488 : Int) (v489 : List Int) (v490 : List Int) (k0 : List Int → List Int → Option α) : Option α :=
  let x491 := (decide ((0 : Int) ≤ v488))
  bif x491 then
    spec_l5Pow2 N v488
      (fun x499 =>
        spec_l5Mul N v489 x499
          (fun x500 =>
            k0 x500 v490))
  else
    let x501 := IntKind.i64.wrap (0 - v488)
    spec_l5Pow2 N x501
      (fun x502 =>
        spec_l5Mul N v490 x502
          (fun x503 =>
            k0 v489 x503))
theorem spec_l8Scaled_J3.ex : ∃ f : ((α : Type) → Nat → Int → List Int → List Int → (List Int → List Int → Option α) → Option α), f = fun α => @spec_l8Scaled_J3.b α := ⟨_, rfl⟩
noncomputable def spec_l8Scaled_J3 {α : Type} : Nat → Int → List Int → List Int → (List Int → List Int → Option α) → Option α := Classical.choose spec_l8Scaled_J3.ex α
theorem spec_l8Scaled_J3.eq : @spec_l8Scaled_J3 = @spec_l8Scaled_J3.b := funext fun α => congrFun (Classical.choose_spec spec_l8Scaled_J3.ex) α
/-- loop.example/pinfold/spec.l8Scaled -/
noncomputable def spec_l8Scaled.b {α : Type} (N : Nat) (a486 : Bool × (List Int) × (List Int) × Unit) (a487 : Int) (k0 : Bool → List Int → Option α) : Option α :=
  spec_l8Scaled_J3 N a487 a486.2.1 a486.2.2.1
    (fun x504 x505 =>
      spec_l5Div N x504 x505
        (fun x506 x507 =>
          let x508 := ((x507.length : Nat) : Int)
          let x509 := (decide ((0 : Int) < x508))
          k0 x509 x506))
theorem spec_l8Scaled.ex : ∃ f : ((α : Type) → Nat → (Bool × (List Int) × (List Int) × Unit) → Int → (Bool → List Int → Option α) → Option α), f = fun α => @spec_l8Scaled.b α := ⟨_, rfl⟩
noncomputable def spec_l8Scaled {α : Type} : Nat → (Bool × (List Int) × (List Int) × Unit) → Int → (Bool → List Int → Option α) → Option α := Classical.choose spec_l8Scaled.ex α
theorem spec_l8Scaled.eq : @spec_l8Scaled = @spec_l8Scaled.b := funext fun α => congrFun (Classical.choose_spec spec_l8Scaled.ex) α

noncomputable def spec_NatSmall_L0r {α : Type} (N : Nat) (next : List Int → Int → Int → Option α) (k0 : Int → Option α) (v536 : List Int) (v537 : Int) (v538 : Int) : Option α :=
  let x539 := (decide ((0 : Int) ≤ v538))
  bif x539 then
    let x540 := (IntKind.u64.wrap (v537 * (65536 : Int)))
    bif (decide (v538 < (0 : Int))) then
      none
    else
      match v536[v538.toNat]? with
      | some x541 =>
        let x542 := IntKind.u64.wrap x541
        let x543 := IntKind.u64.wrap (x540 + x542)
        let x544 := (IntKind.i64.wrap (v538 - (1 : Int)))
        next v536 x543 x544
      | none => none
  else
    k0 v537
noncomputable def spec_NatSmall_L0.b {α : Type} (N n : Nat) (v536 : List Int) (v537 : Int) (v538 : Int) (k0 : Int → Option α) : Option α :=
  Nat.rec (motive := fun _ => List Int → Int → Int → Option α) (fun _ _ _ => none) (fun _ next => spec_NatSmall_L0r N next k0) n v536 v537 v538
theorem spec_NatSmall_L0.ex : ∃ f : ((α : Type) → Nat → Nat → List Int → Int → Int → (Int → Option α) → Option α), f = fun α => @spec_NatSmall_L0.b α := ⟨_, rfl⟩
noncomputable def spec_NatSmall_L0 {α : Type} : Nat → Nat → List Int → Int → Int → (Int → Option α) → Option α := Classical.choose spec_NatSmall_L0.ex α
theorem spec_NatSmall_L0.eq : @spec_NatSmall_L0 = @spec_NatSmall_L0.b := funext fun α => congrFun (Classical.choose_spec spec_NatSmall_L0.ex) α
theorem spec_NatSmall_L0.zero {α : Type} (N : Nat) (v536 : List Int) (v537 : Int) (v538 : Int) (k0 : Int → Option α) : spec_NatSmall_L0 N 0 v536 v537 v538 k0 = none := by rw [spec_NatSmall_L0.eq]; rfl
theorem spec_NatSmall_L0.succ {α : Type} (N n : Nat) (v536 : List Int) (v537 : Int) (v538 : Int) (k0 : Int → Option α) : spec_NatSmall_L0 N (n + 1) v536 v537 v538 k0 = spec_NatSmall_L0r N (fun y0 y1 y2 => spec_NatSmall_L0 N n y0 y1 y2 k0) k0 v536 v537 v538 := by rw [spec_NatSmall_L0.eq]; rfl
/-- loop.example/pinfold/spec.NatSmall -/
noncomputable def spec_NatSmall.b {α : Type} (N : Nat) (a529 : List Int) (k0 : Int → Bool → Option α) : Option α :=
  spec_NatOk N a529
    (fun x530 =>
      let x531 := !x530
      bif x531 then
        k0 (0 : Int) false
      else
        let x532 := ((a529.length : Nat) : Int)
        let x533 := (decide ((4 : Int) < x532))
        bif x533 then
          k0 (0 : Int) false
        else
          let x534 := ((a529.length : Nat) : Int)
          let x535 := (IntKind.i64.wrap (x534 - (1 : Int)))
          spec_NatSmall_L0 N N a529 (0 : Int) x535
            (fun x545 =>
              k0 x545 true))
theorem spec_NatSmall.ex : ∃ f : ((α : Type) → Nat → List Int → (Int → Bool → Option α) → Option α), f = fun α => @spec_NatSmall.b α := ⟨_, rfl⟩
noncomputable def spec_NatSmall {α : Type} : Nat → List Int → (Int → Bool → Option α) → Option α := Classical.choose spec_NatSmall.ex α
theorem spec_NatSmall.eq : @spec_NatSmall = @spec_NatSmall.b := funext fun α => congrFun (Classical.choose_spec spec_NatSmall.ex) α

/-- loop.example/pinfold/spec.BitTop -/
noncomputable def spec_BitTop.b {α : Type} (N : Nat) (a555 : Int) (k0 : Int → Option α) : Option α :=
  let x556 := (decide (a555 = (32 : Int)))
  bif x556 then
    k0 (2139095040 : Int)
  else
    let x557 := (decide (a555 = (64 : Int)))
    bif x557 then
      k0 (9218868437227405312 : Int)
    else
      k0 (0 : Int)
theorem spec_BitTop.ex : ∃ f : ((α : Type) → Nat → Int → (Int → Option α) → Option α), f = fun α => @spec_BitTop.b α := ⟨_, rfl⟩
noncomputable def spec_BitTop {α : Type} : Nat → Int → (Int → Option α) → Option α := Classical.choose spec_BitTop.ex α
theorem spec_BitTop.eq : @spec_BitTop = @spec_BitTop.b := funext fun α => congrFun (Classical.choose_spec spec_BitTop.ex) α

noncomputable def spec_l8Size_J5.b {α : Type} (N : Nat) (v453 : Int) (v454 : Int) (v455 : Int) (v456 : Bool × (List Int) × (List Int) × Unit) (k0 : Int → Int → Int → (Bool × (List Int) × (List Int) × Unit) → Option α) : Option α :=
  spec_l1Least N v453
    (fun x459 =>
      let x460 := IntKind.i64.wrap (0 - x459)
      let x461 := decide (x460 < v455)
      bif x461 then
        spec_l1Least N v453
          (fun x462 =>
            let x463 := IntKind.i64.wrap (0 - x462)
            k0 v453 v454 x463 v456)
      else
        k0 v453 v454 v455 v456)
theorem spec_l8Size_J5.ex : ∃ f : ((α : Type) → Nat → Int → Int → Int → (Bool × (List Int) × (List Int) × Unit) → (Int → Int → Int → (Bool × (List Int) × (List Int) × Unit) → Option α) → Option α), f = fun α => @spec_l8Size_J5.b α := ⟨_, rfl⟩
noncomputable def spec_l8Size_J5 {α : Type} : Nat → Int → Int → Int → (Bool × (List Int) × (List Int) × Unit) → (Int → Int → Int → (Bool × (List Int) × (List Int) × Unit) → Option α) → Option α := Classical.choose spec_l8Size_J5.ex α
theorem spec_l8Size_J5.eq : @spec_l8Size_J5 = @spec_l8Size_J5.b := funext fun α => congrFun (Classical.choose_spec spec_l8Size_J5.ex) α
noncomputable def spec_l8Size_L0r {α : Type} (N : Nat) (next : Int → Int → Int → Bool → (Bool × (List Int) × (List Int) × Unit) → List Int → Option α) (k0 : Int → Int → Int → Bool → List Int → Option α) (v512 : Int) (v513 : Int) (v514 : Int) (v515 : Bool) (v516 : Bool × (List Int) × (List Int) × Unit) (v517 : List Int) : Option α :=
  spec_l5Bits N v517
    (fun x518 =>
      let x519 := (IntKind.i64.wrap (v513 + (1 : Int)))
      let x520 := decide (x519 < x518)
      bif x520 then
        let x521 := (IntKind.i64.wrap (v514 - (1 : Int)))
        spec_l8Scaled N v516 x521
          (fun x522 x523 =>
            next v512 v513 x521 x522 v516 x523)
      else
        k0 v512 v513 v514 v515 v517)
noncomputable def spec_l8Size_L0.b {α : Type} (N n : Nat) (v512 : Int) (v513 : Int) (v514 : Int) (v515 : Bool) (v516 : Bool × (List Int) × (List Int) × Unit) (v517 : List Int) (k0 : Int → Int → Int → Bool → List Int → Option α) : Option α :=
  Nat.rec (motive := fun _ => Int → Int → Int → Bool → (Bool × (List Int) × (List Int) × Unit) → List Int → Option α) (fun _ _ _ _ _ _ => none) (fun _ next => spec_l8Size_L0r N next k0) n v512 v513 v514 v515 v516 v517
theorem spec_l8Size_L0.ex : ∃ f : ((α : Type) → Nat → Nat → Int → Int → Int → Bool → (Bool × (List Int) × (List Int) × Unit) → List Int → (Int → Int → Int → Bool → List Int → Option α) → Option α), f = fun α => @spec_l8Size_L0.b α := ⟨_, rfl⟩
noncomputable def spec_l8Size_L0 {α : Type} : Nat → Nat → Int → Int → Int → Bool → (Bool × (List Int) × (List Int) × Unit) → List Int → (Int → Int → Int → Bool → List Int → Option α) → Option α := Classical.choose spec_l8Size_L0.ex α
theorem spec_l8Size_L0.eq : @spec_l8Size_L0 = @spec_l8Size_L0.b := funext fun α => congrFun (Classical.choose_spec spec_l8Size_L0.ex) α
theorem spec_l8Size_L0.zero {α : Type} (N : Nat) (v512 : Int) (v513 : Int) (v514 : Int) (v515 : Bool) (v516 : Bool × (List Int) × (List Int) × Unit) (v517 : List Int) (k0 : Int → Int → Int → Bool → List Int → Option α) : spec_l8Size_L0 N 0 v512 v513 v514 v515 v516 v517 k0 = none := by rw [spec_l8Size_L0.eq]; rfl
theorem spec_l8Size_L0.succ {α : Type} (N n : Nat) (v512 : Int) (v513 : Int) (v514 : Int) (v515 : Bool) (v516 : Bool × (List Int) × (List Int) × Unit) (v517 : List Int) (k0 : Int → Int → Int → Bool → List Int → Option α) : spec_l8Size_L0 N (n + 1) v512 v513 v514 v515 v516 v517 k0 = spec_l8Size_L0r N (fun y0 y1 y2 y3 y4 y5 => spec_l8Size_L0 N n y0 y1 y2 y3 y4 y5 k0) k0 v512 v513 v514 v515 v516 v517 := by rw [spec_l8Size_L0.eq]; rfl
/-- loop.example/pinfold/spec.l8Size -/
noncomputable def spec_l8Size.b {α : Type} (N : Nat) (a426 : Int) (a427 : Bool × (List Int) × (List Int) × Unit) (k0 : Int → Bool → Option α) : Option α :=
  let x428 := ((a427.2.1.length : Nat) : Int)
  let x429 := (decide (x428 = (0 : Int)))
  bif x429 then
    k0 (0 : Int) false
  else
    spec_l1Frac N a426
      (fun x432 =>
        let x433 := (IntKind.i64.wrap (x432 + (1 : Int)))
        spec_l5Bits N a427.2.1
          (fun x449 =>
            let x450 := IntKind.i64.wrap (x433 - x449)
            spec_l5Bits N a427.2.2.1
              (fun x451 =>
                let x452 := IntKind.i64.wrap (x450 + x451)
                spec_l8Size_J5 N a426 x432 x452 a427
                  (fun x464 x465 x466 x467 =>
                    spec_l8Scaled N x467 x466
                      (fun x510 x511 =>
                        spec_l8Size_L0 N N x464 x465 x466 x510 x467 x511
                          (fun x524 x525 x526 x527 x528 =>
                            spec_NatSmall N x528
                              (fun x546 _ =>
                                spec_l5Bits N x528
                                  (fun x548 =>
                                    let x549 := decide (x548 ≤ x525)
                                    bif x549 then
                                      let x550 := IntKind.i64.wrap x546
                                      k0 x550 x527
                                    else
                                      let x551 := IntKind.i64.wrap (0 - x526)
                                      spec_l1Least N x524
                                        (fun x552 =>
                                          let x553 := IntKind.i64.wrap (x551 - x552)
                                          let x554 := (IntKind.i64.wrap (x553 + (1 : Int)))
                                          spec_BitTop N x524
                                            (fun x558 =>
                                              let x559 := IntKind.u64.wrap x525
                                              bif (decide (x559 < (0 : Int))) then
                                                none
                                              else
                                                let x560 := shrI .i64 x558 x559
                                                let x561 := (IntKind.i64.wrap (x560 - (1 : Int)))
                                                let x562 := decide (x561 < x554)
                                                bif x562 then
                                                  spec_BitTop N x524
                                                    (fun x563 =>
                                                      let x564 := (IntKind.i64.wrap (x563 - (1 : Int)))
                                                      k0 x564 true)
                                                else
                                                  let x565 := IntKind.u64.wrap x525
                                                  bif (decide (x565 < (0 : Int))) then
                                                    none
                                                  else
                                                    let x566 := shlI .i64 x554 x565
                                                    let x567 := IntKind.i64.wrap x546
                                                    let x568 := IntKind.i64.wrap (x566 + x567)
                                                    let x569 := IntKind.u64.wrap x525
                                                    bif (decide (x569 < (0 : Int))) then
                                                      none
                                                    else
                                                      let x570 := (shlI .i64 (1 : Int) x569)
                                                      let x571 := IntKind.i64.wrap (x568 - x570)
                                                      k0 x571 x527))))))))))
theorem spec_l8Size.ex : ∃ f : ((α : Type) → Nat → Int → (Bool × (List Int) × (List Int) × Unit) → (Int → Bool → Option α) → Option α), f = fun α => @spec_l8Size.b α := ⟨_, rfl⟩
noncomputable def spec_l8Size {α : Type} : Nat → Int → (Bool × (List Int) × (List Int) × Unit) → (Int → Bool → Option α) → Option α := Classical.choose spec_l8Size.ex α
theorem spec_l8Size.eq : @spec_l8Size = @spec_l8Size.b := funext fun α => congrFun (Classical.choose_spec spec_l8Size.ex) α

noncomputable def spec_l8Round_J3.b {α : Type} (N : Nat) (v574 : Bool) (v575 : Int) (v576 : Bool) (k0 : Int → Option α) : Option α :=
  bif v576 then
    let x577 := !v574
    bif x577 then
      let x578 := (IntKind.i64.wrap (v575 + (1 : Int)))
      k0 x578
    else
      k0 v575
  else
    k0 v575
theorem spec_l8Round_J3.ex : ∃ f : ((α : Type) → Nat → Bool → Int → Bool → (Int → Option α) → Option α), f = fun α => @spec_l8Round_J3.b α := ⟨_, rfl⟩
noncomputable def spec_l8Round_J3 {α : Type} : Nat → Bool → Int → Bool → (Int → Option α) → Option α := Classical.choose spec_l8Round_J3.ex α
theorem spec_l8Round_J3.eq : @spec_l8Round_J3 = @spec_l8Round_J3.b := funext fun α => congrFun (Classical.choose_spec spec_l8Round_J3.ex) α
noncomputable def spec_l8Round_J6.b {α : Type} (N : Nat) (v581 : Bool) (v582 : Int) (v583 : Bool) (k0 : Int → Option α) : Option α :=
  bif v583 then
    bif v581 then
      let x584 := (IntKind.i64.wrap (v582 + (1 : Int)))
      k0 x584
    else
      k0 v582
  else
    k0 v582
theorem spec_l8Round_J6.ex : ∃ f : ((α : Type) → Nat → Bool → Int → Bool → (Int → Option α) → Option α), f = fun α => @spec_l8Round_J6.b α := ⟨_, rfl⟩
noncomputable def spec_l8Round_J6 {α : Type} : Nat → Bool → Int → Bool → (Int → Option α) → Option α := Classical.choose spec_l8Round_J6.ex α
theorem spec_l8Round_J6.eq : @spec_l8Round_J6 = @spec_l8Round_J6.b := funext fun α => congrFun (Classical.choose_spec spec_l8Round_J6.ex) α
/-- loop.example/pinfold/spec.l8Round -/
noncomputable def spec_l8Round.b {α : Type} (N : Nat) (a423 : Int) (a424 : Bool × (List Int) × (List Int) × Unit) (a425 : Bool) (k0 : Int → Option α) : Option α :=
  spec_l8Size N a423 a424
    (fun x572 x573 =>
      bif a424.1 then
        spec_l8Round_J3 N a425 x572 x573
          (fun x579 =>
            let x580 := IntKind.i64.wrap (0 - x579)
            k0 x580)
      else
        spec_l8Round_J6 N a425 x572 x573
          (fun x585 =>
            k0 x585))
theorem spec_l8Round.ex : ∃ f : ((α : Type) → Nat → Int → (Bool × (List Int) × (List Int) × Unit) → Bool → (Int → Option α) → Option α), f = fun α => @spec_l8Round.b α := ⟨_, rfl⟩
noncomputable def spec_l8Round {α : Type} : Nat → Int → (Bool × (List Int) × (List Int) × Unit) → Bool → (Int → Option α) → Option α := Classical.choose spec_l8Round.ex α
theorem spec_l8Round.eq : @spec_l8Round = @spec_l8Round.b := funext fun α => congrFun (Classical.choose_spec spec_l8Round.ex) α

/-- loop.example/pinfold/spec.FloatUp -/
noncomputable def spec_FloatUp.b {α : Type} (N : Nat) (a35 : Int) (a36 : Bool × (List Int) × (List Int) × Unit) (k0 : Int → Bool → Option α) : Option α :=
  spec_l1Width N a35
    (fun x40 =>
      let x41 := !x40
      bif x41 then
        k0 (0 : Int) false
      else
        spec_FracOk N a36
          (fun x419 =>
            let x420 := !x419
            bif x420 then
              k0 (0 : Int) false
            else
              spec_l8Frac N a36
                (fun x422 =>
                  spec_l8Round N a35 x422 true
                    (fun x586 =>
                      k0 x586 true))))
theorem spec_FloatUp.ex : ∃ f : ((α : Type) → Nat → Int → (Bool × (List Int) × (List Int) × Unit) → (Int → Bool → Option α) → Option α), f = fun α => @spec_FloatUp.b α := ⟨_, rfl⟩
noncomputable def spec_FloatUp {α : Type} : Nat → Int → (Bool × (List Int) × (List Int) × Unit) → (Int → Bool → Option α) → Option α := Classical.choose spec_FloatUp.ex α
theorem spec_FloatUp.eq : @spec_FloatUp = @spec_FloatUp.b := funext fun α => congrFun (Classical.choose_spec spec_FloatUp.ex) α

/-- loop.example/pinfold/impl.formatOf -/
noncomputable def impl_formatOf.b {α : Type} (N : Nat) (a596 : Int) (k0 : (Int × Int × Int × Int × Unit) → Bool → Option α) : Option α :=
  let x597 := (decide (a596 = (32 : Int)))
  bif x597 then
    k0 ((23 : Int), ((-149 : Int), ((127 : Int), ((2139095040 : Int), ())))) true
  else
    let x598 := (decide (a596 = (64 : Int)))
    bif x598 then
      k0 ((52 : Int), ((-1074 : Int), ((1023 : Int), ((9218868437227405312 : Int), ())))) true
    else
      k0 ((0 : Int), ((0 : Int), ((0 : Int), ((0 : Int), ())))) false
theorem impl_formatOf.ex : ∃ f : ((α : Type) → Nat → Int → ((Int × Int × Int × Int × Unit) → Bool → Option α) → Option α), f = fun α => @impl_formatOf.b α := ⟨_, rfl⟩
noncomputable def impl_formatOf {α : Type} : Nat → Int → ((Int × Int × Int × Int × Unit) → Bool → Option α) → Option α := Classical.choose impl_formatOf.ex α
theorem impl_formatOf.eq : @impl_formatOf = @impl_formatOf.b := funext fun α => congrFun (Classical.choose_spec impl_formatOf.ex) α

/-- loop.example/pinfold/impl.in -/
noncomputable def impl_in.b {α : Type} (N : Nat) (a627 : Int) (a628 : Int) (a629 : Int) (k0 : Bool → Option α) : Option α :=
  let x630 := decide (a628 ≤ a627)
  bif x630 then
    let x631 := decide (a627 ≤ a629)
    k0 x631
  else
    k0 false
theorem impl_in.ex : ∃ f : ((α : Type) → Nat → Int → Int → Int → (Bool → Option α) → Option α), f = fun α => @impl_in.b α := ⟨_, rfl⟩
noncomputable def impl_in {α : Type} : Nat → Int → Int → Int → (Bool → Option α) → Option α := Classical.choose impl_in.ex α
theorem impl_in.eq : @impl_in = @impl_in.b := funext fun α => congrFun (Classical.choose_spec impl_in.ex) α

/-- loop.example/pinfold/impl.NatOk$1 -/
noncomputable def impl_NatOk_1.b {α : Type} (N : Nat) (a626 : Int) (k0 : Bool → Option α) : Option α :=
  impl_in N a626 (0 : Int) (65535 : Int)
    (fun x632 =>
      let x633 := !x632
      k0 x633)
theorem impl_NatOk_1.ex : ∃ f : ((α : Type) → Nat → Int → (Bool → Option α) → Option α), f = fun α => @impl_NatOk_1.b α := ⟨_, rfl⟩
noncomputable def impl_NatOk_1 {α : Type} : Nat → Int → (Bool → Option α) → Option α := Classical.choose impl_NatOk_1.ex α
theorem impl_NatOk_1.eq : @impl_NatOk_1 = @impl_NatOk_1.b := funext fun α => congrFun (Classical.choose_spec impl_NatOk_1.ex) α

noncomputable def slices_IndexFunc_int_int__impl_NatOk_1_L0r {α : Type} (N : Nat) (next : List Int → Int → Int → Option α) (k0 : Int → Option α) (k1 : Option α) (v621 : List Int) (v622 : Int) (v623 : Int) : Option α :=
  let x624 := decide (v623 < v622)
  bif x624 then
    bif (decide (v623 < (0 : Int))) then
      none
    else
      match v621[v623.toNat]? with
      | some x625 =>
        impl_NatOk_1 N x625
          (fun x634 =>
            bif x634 then
              k0 v623
            else
              let x635 := (IntKind.i64.wrap (v623 + (1 : Int)))
              next v621 v622 x635)
      | none => none
  else
    k1
noncomputable def slices_IndexFunc_int_int__impl_NatOk_1_L0.b {α : Type} (N n : Nat) (v621 : List Int) (v622 : Int) (v623 : Int) (k0 : Int → Option α) (k1 : Option α) : Option α :=
  Nat.rec (motive := fun _ => List Int → Int → Int → Option α) (fun _ _ _ => none) (fun _ next => slices_IndexFunc_int_int__impl_NatOk_1_L0r N next k0 k1) n v621 v622 v623
theorem slices_IndexFunc_int_int__impl_NatOk_1_L0.ex : ∃ f : ((α : Type) → Nat → Nat → List Int → Int → Int → (Int → Option α) → (Option α) → Option α), f = fun α => @slices_IndexFunc_int_int__impl_NatOk_1_L0.b α := ⟨_, rfl⟩
noncomputable def slices_IndexFunc_int_int__impl_NatOk_1_L0 {α : Type} : Nat → Nat → List Int → Int → Int → (Int → Option α) → (Option α) → Option α := Classical.choose slices_IndexFunc_int_int__impl_NatOk_1_L0.ex α
theorem slices_IndexFunc_int_int__impl_NatOk_1_L0.eq : @slices_IndexFunc_int_int__impl_NatOk_1_L0 = @slices_IndexFunc_int_int__impl_NatOk_1_L0.b := funext fun α => congrFun (Classical.choose_spec slices_IndexFunc_int_int__impl_NatOk_1_L0.ex) α
theorem slices_IndexFunc_int_int__impl_NatOk_1_L0.zero {α : Type} (N : Nat) (v621 : List Int) (v622 : Int) (v623 : Int) (k0 : Int → Option α) (k1 : Option α) : slices_IndexFunc_int_int__impl_NatOk_1_L0 N 0 v621 v622 v623 k0 k1 = none := by rw [slices_IndexFunc_int_int__impl_NatOk_1_L0.eq]; rfl
theorem slices_IndexFunc_int_int__impl_NatOk_1_L0.succ {α : Type} (N n : Nat) (v621 : List Int) (v622 : Int) (v623 : Int) (k0 : Int → Option α) (k1 : Option α) : slices_IndexFunc_int_int__impl_NatOk_1_L0 N (n + 1) v621 v622 v623 k0 k1 = slices_IndexFunc_int_int__impl_NatOk_1_L0r N (fun y0 y1 y2 => slices_IndexFunc_int_int__impl_NatOk_1_L0 N n y0 y1 y2 k0 k1) k0 k1 v621 v622 v623 := by rw [slices_IndexFunc_int_int__impl_NatOk_1_L0.eq]; rfl
/-- slices.IndexFunc[[]int,int] -/
noncomputable def slices_IndexFunc_int_int__impl_NatOk_1.b {α : Type} (N : Nat) (a619 : List Int) (k0 : Int → Option α) : Option α :=
  let x620 := ((a619.length : Nat) : Int)
  slices_IndexFunc_int_int__impl_NatOk_1_L0 N N a619 x620 (0 : Int)
    (fun x636 =>
      k0 x636)
    (
      k0 (-1 : Int))
theorem slices_IndexFunc_int_int__impl_NatOk_1.ex : ∃ f : ((α : Type) → Nat → List Int → (Int → Option α) → Option α), f = fun α => @slices_IndexFunc_int_int__impl_NatOk_1.b α := ⟨_, rfl⟩
noncomputable def slices_IndexFunc_int_int__impl_NatOk_1 {α : Type} : Nat → List Int → (Int → Option α) → Option α := Classical.choose slices_IndexFunc_int_int__impl_NatOk_1.ex α
theorem slices_IndexFunc_int_int__impl_NatOk_1.eq : @slices_IndexFunc_int_int__impl_NatOk_1 = @slices_IndexFunc_int_int__impl_NatOk_1.b := funext fun α => congrFun (Classical.choose_spec slices_IndexFunc_int_int__impl_NatOk_1.ex) α

/-- slices.ContainsFunc[[]int,int] -/
noncomputable def slices_ContainsFunc_int_int__impl_NatOk_1.b {α : Type} (N : Nat) (a618 : List Int) (k0 : Bool → Option α) : Option α :=
  slices_IndexFunc_int_int__impl_NatOk_1 N a618
    (fun x637 =>
      let x638 := (decide ((0 : Int) ≤ x637))
      k0 x638)
theorem slices_ContainsFunc_int_int__impl_NatOk_1.ex : ∃ f : ((α : Type) → Nat → List Int → (Bool → Option α) → Option α), f = fun α => @slices_ContainsFunc_int_int__impl_NatOk_1.b α := ⟨_, rfl⟩
noncomputable def slices_ContainsFunc_int_int__impl_NatOk_1 {α : Type} : Nat → List Int → (Bool → Option α) → Option α := Classical.choose slices_ContainsFunc_int_int__impl_NatOk_1.ex α
theorem slices_ContainsFunc_int_int__impl_NatOk_1.eq : @slices_ContainsFunc_int_int__impl_NatOk_1 = @slices_ContainsFunc_int_int__impl_NatOk_1.b := funext fun α => congrFun (Classical.choose_spec slices_ContainsFunc_int_int__impl_NatOk_1.ex) α

/-- loop.example/pinfold/impl.NatOk -/
noncomputable def impl_NatOk.b {α : Type} (N : Nat) (a613 : List Int) (k0 : Bool → Option α) : Option α :=
  let x614 := ((a613.length : Nat) : Int)
  let x615 := (decide (x614 ≤ (256 : Int)))
  bif x615 then
    let x616 := ((a613.length : Nat) : Int)
    let x617 := (decide (x616 = (0 : Int)))
    bif x617 then
      slices_ContainsFunc_int_int__impl_NatOk_1 N a613
        (fun x639 =>
          let x640 := !x639
          k0 x640)
    else
      let x641 := ((a613.length : Nat) : Int)
      let x642 := (IntKind.i64.wrap (x641 - (1 : Int)))
      bif (decide (x642 < (0 : Int))) then
        none
      else
        match a613[x642.toNat]? with
        | some x643 =>
          let x644 := (!(decide (x643 = (0 : Int))))
          bif x644 then
            slices_ContainsFunc_int_int__impl_NatOk_1 N a613
              (fun x645 =>
                let x646 := !x645
                k0 x646)
          else
            k0 false
        | none => none
  else
    k0 false
theorem impl_NatOk.ex : ∃ f : ((α : Type) → Nat → List Int → (Bool → Option α) → Option α), f = fun α => @impl_NatOk.b α := ⟨_, rfl⟩
noncomputable def impl_NatOk {α : Type} : Nat → List Int → (Bool → Option α) → Option α := Classical.choose impl_NatOk.ex α
theorem impl_NatOk.eq : @impl_NatOk = @impl_NatOk.b := funext fun α => congrFun (Classical.choose_spec impl_NatOk.ex) α

/-- loop.example/pinfold/impl.nats$1 -/
noncomputable def impl_nats_1.b {α : Type} (N : Nat) (a612 : List Int) (k0 : Bool → Option α) : Option α :=
  impl_NatOk N a612
    (fun x647 =>
      let x648 := !x647
      k0 x648)
theorem impl_nats_1.ex : ∃ f : ((α : Type) → Nat → List Int → (Bool → Option α) → Option α), f = fun α => @impl_nats_1.b α := ⟨_, rfl⟩
noncomputable def impl_nats_1 {α : Type} : Nat → List Int → (Bool → Option α) → Option α := Classical.choose impl_nats_1.ex α
theorem impl_nats_1.eq : @impl_nats_1 = @impl_nats_1.b := funext fun α => congrFun (Classical.choose_spec impl_nats_1.ex) α

noncomputable def slices_IndexFunc_int_int__impl_nats_1_L0r {α : Type} (N : Nat) (next : List (List Int) → Int → Int → Option α) (k0 : Int → Option α) (k1 : Option α) (v607 : List (List Int)) (v608 : Int) (v609 : Int) : Option α :=
  let x610 := decide (v609 < v608)
  bif x610 then
    bif (decide (v609 < (0 : Int))) then
      none
    else
      match v607[v609.toNat]? with
      | some x611 =>
        impl_nats_1 N x611
          (fun x649 =>
            bif x649 then
              k0 v609
            else
              let x650 := (IntKind.i64.wrap (v609 + (1 : Int)))
              next v607 v608 x650)
      | none => none
  else
    k1
noncomputable def slices_IndexFunc_int_int__impl_nats_1_L0.b {α : Type} (N n : Nat) (v607 : List (List Int)) (v608 : Int) (v609 : Int) (k0 : Int → Option α) (k1 : Option α) : Option α :=
  Nat.rec (motive := fun _ => List (List Int) → Int → Int → Option α) (fun _ _ _ => none) (fun _ next => slices_IndexFunc_int_int__impl_nats_1_L0r N next k0 k1) n v607 v608 v609
theorem slices_IndexFunc_int_int__impl_nats_1_L0.ex : ∃ f : ((α : Type) → Nat → Nat → List (List Int) → Int → Int → (Int → Option α) → (Option α) → Option α), f = fun α => @slices_IndexFunc_int_int__impl_nats_1_L0.b α := ⟨_, rfl⟩
noncomputable def slices_IndexFunc_int_int__impl_nats_1_L0 {α : Type} : Nat → Nat → List (List Int) → Int → Int → (Int → Option α) → (Option α) → Option α := Classical.choose slices_IndexFunc_int_int__impl_nats_1_L0.ex α
theorem slices_IndexFunc_int_int__impl_nats_1_L0.eq : @slices_IndexFunc_int_int__impl_nats_1_L0 = @slices_IndexFunc_int_int__impl_nats_1_L0.b := funext fun α => congrFun (Classical.choose_spec slices_IndexFunc_int_int__impl_nats_1_L0.ex) α
theorem slices_IndexFunc_int_int__impl_nats_1_L0.zero {α : Type} (N : Nat) (v607 : List (List Int)) (v608 : Int) (v609 : Int) (k0 : Int → Option α) (k1 : Option α) : slices_IndexFunc_int_int__impl_nats_1_L0 N 0 v607 v608 v609 k0 k1 = none := by rw [slices_IndexFunc_int_int__impl_nats_1_L0.eq]; rfl
theorem slices_IndexFunc_int_int__impl_nats_1_L0.succ {α : Type} (N n : Nat) (v607 : List (List Int)) (v608 : Int) (v609 : Int) (k0 : Int → Option α) (k1 : Option α) : slices_IndexFunc_int_int__impl_nats_1_L0 N (n + 1) v607 v608 v609 k0 k1 = slices_IndexFunc_int_int__impl_nats_1_L0r N (fun y0 y1 y2 => slices_IndexFunc_int_int__impl_nats_1_L0 N n y0 y1 y2 k0 k1) k0 k1 v607 v608 v609 := by rw [slices_IndexFunc_int_int__impl_nats_1_L0.eq]; rfl
/-- slices.IndexFunc[[][]int,[]int] -/
noncomputable def slices_IndexFunc_int_int__impl_nats_1.b {α : Type} (N : Nat) (a605 : List (List Int)) (k0 : Int → Option α) : Option α :=
  let x606 := ((a605.length : Nat) : Int)
  slices_IndexFunc_int_int__impl_nats_1_L0 N N a605 x606 (0 : Int)
    (fun x651 =>
      k0 x651)
    (
      k0 (-1 : Int))
theorem slices_IndexFunc_int_int__impl_nats_1.ex : ∃ f : ((α : Type) → Nat → List (List Int) → (Int → Option α) → Option α), f = fun α => @slices_IndexFunc_int_int__impl_nats_1.b α := ⟨_, rfl⟩
noncomputable def slices_IndexFunc_int_int__impl_nats_1 {α : Type} : Nat → List (List Int) → (Int → Option α) → Option α := Classical.choose slices_IndexFunc_int_int__impl_nats_1.ex α
theorem slices_IndexFunc_int_int__impl_nats_1.eq : @slices_IndexFunc_int_int__impl_nats_1 = @slices_IndexFunc_int_int__impl_nats_1.b := funext fun α => congrFun (Classical.choose_spec slices_IndexFunc_int_int__impl_nats_1.ex) α

/-- slices.ContainsFunc[[][]int,[]int] -/
noncomputable def slices_ContainsFunc_int_int__impl_nats_1.b {α : Type} (N : Nat) (a604 : List (List Int)) (k0 : Bool → Option α) : Option α :=
  slices_IndexFunc_int_int__impl_nats_1 N a604
    (fun x652 =>
      let x653 := (decide ((0 : Int) ≤ x652))
      k0 x653)
theorem slices_ContainsFunc_int_int__impl_nats_1.ex : ∃ f : ((α : Type) → Nat → List (List Int) → (Bool → Option α) → Option α), f = fun α => @slices_ContainsFunc_int_int__impl_nats_1.b α := ⟨_, rfl⟩
noncomputable def slices_ContainsFunc_int_int__impl_nats_1 {α : Type} : Nat → List (List Int) → (Bool → Option α) → Option α := Classical.choose slices_ContainsFunc_int_int__impl_nats_1.ex α
theorem slices_ContainsFunc_int_int__impl_nats_1.eq : @slices_ContainsFunc_int_int__impl_nats_1 = @slices_ContainsFunc_int_int__impl_nats_1.b := funext fun α => congrFun (Classical.choose_spec slices_ContainsFunc_int_int__impl_nats_1.ex) α

/-- loop.example/pinfold/impl.nats -/
noncomputable def impl_nats.b {α : Type} (N : Nat) (a603 : List (List Int)) (k0 : Bool → Option α) : Option α :=
  slices_ContainsFunc_int_int__impl_nats_1 N a603
    (fun x654 =>
      let x655 := !x654
      k0 x655)
theorem impl_nats.ex : ∃ f : ((α : Type) → Nat → List (List Int) → (Bool → Option α) → Option α), f = fun α => @impl_nats.b α := ⟨_, rfl⟩
noncomputable def impl_nats {α : Type} : Nat → List (List Int) → (Bool → Option α) → Option α := Classical.choose impl_nats.ex α
theorem impl_nats.eq : @impl_nats = @impl_nats.b := funext fun α => congrFun (Classical.choose_spec impl_nats.ex) α

noncomputable def impl_natCmp_L0r {α : Type} (N : Nat) (next : List Int → List Int → Int → Option α) (k0 : Int → Option α) (k1 : Option α) (v750 : List Int) (v751 : List Int) (v752 : Int) : Option α :=
  let x753 := (decide ((0 : Int) ≤ v752))
  bif x753 then
    bif (decide (v752 < (0 : Int))) then
      none
    else
      match v750[v752.toNat]? with
      | some x754 =>
        bif (decide (v752 < (0 : Int))) then
          none
        else
          match v751[v752.toNat]? with
          | some x755 =>
            let x756 := !(decide (x754 = x755))
            bif x756 then
              bif (decide (v752 < (0 : Int))) then
                none
              else
                match v750[v752.toNat]? with
                | some x757 =>
                  bif (decide (v752 < (0 : Int))) then
                    none
                  else
                    match v751[v752.toNat]? with
                    | some x758 =>
                      let x759 := IntKind.i64.wrap (x757 - x758)
                      let x760 := (minI (1 : Int) x759)
                      let x761 := (maxI (-1 : Int) x760)
                      k0 x761
                    | none => none
                | none => none
            else
              let x762 := (IntKind.i64.wrap (v752 - (1 : Int)))
              next v750 v751 x762
          | none => none
      | none => none
  else
    k1
noncomputable def impl_natCmp_L0.b {α : Type} (N n : Nat) (v750 : List Int) (v751 : List Int) (v752 : Int) (k0 : Int → Option α) (k1 : Option α) : Option α :=
  Nat.rec (motive := fun _ => List Int → List Int → Int → Option α) (fun _ _ _ => none) (fun _ next => impl_natCmp_L0r N next k0 k1) n v750 v751 v752
theorem impl_natCmp_L0.ex : ∃ f : ((α : Type) → Nat → Nat → List Int → List Int → Int → (Int → Option α) → (Option α) → Option α), f = fun α => @impl_natCmp_L0.b α := ⟨_, rfl⟩
noncomputable def impl_natCmp_L0 {α : Type} : Nat → Nat → List Int → List Int → Int → (Int → Option α) → (Option α) → Option α := Classical.choose impl_natCmp_L0.ex α
theorem impl_natCmp_L0.eq : @impl_natCmp_L0 = @impl_natCmp_L0.b := funext fun α => congrFun (Classical.choose_spec impl_natCmp_L0.ex) α
theorem impl_natCmp_L0.zero {α : Type} (N : Nat) (v750 : List Int) (v751 : List Int) (v752 : Int) (k0 : Int → Option α) (k1 : Option α) : impl_natCmp_L0 N 0 v750 v751 v752 k0 k1 = none := by rw [impl_natCmp_L0.eq]; rfl
theorem impl_natCmp_L0.succ {α : Type} (N n : Nat) (v750 : List Int) (v751 : List Int) (v752 : Int) (k0 : Int → Option α) (k1 : Option α) : impl_natCmp_L0 N (n + 1) v750 v751 v752 k0 k1 = impl_natCmp_L0r N (fun y0 y1 y2 => impl_natCmp_L0 N n y0 y1 y2 k0 k1) k0 k1 v750 v751 v752 := by rw [impl_natCmp_L0.eq]; rfl
/-- loop.example/pinfold/impl.natCmp -/
noncomputable def impl_natCmp.b {α : Type} (N : Nat) (a738 : List Int) (a739 : List Int) (k0 : Int → Option α) : Option α :=
  let x740 := ((a738.length : Nat) : Int)
  let x741 := ((a739.length : Nat) : Int)
  let x742 := !(decide (x740 = x741))
  bif x742 then
    let x743 := ((a738.length : Nat) : Int)
    let x744 := ((a739.length : Nat) : Int)
    let x745 := IntKind.i64.wrap (x743 - x744)
    let x746 := (minI (1 : Int) x745)
    let x747 := (maxI (-1 : Int) x746)
    k0 x747
  else
    let x748 := ((a738.length : Nat) : Int)
    let x749 := (IntKind.i64.wrap (x748 - (1 : Int)))
    impl_natCmp_L0 N N a738 a739 x749
      (fun x763 =>
        k0 x763)
      (
        k0 (0 : Int))
theorem impl_natCmp.ex : ∃ f : ((α : Type) → Nat → List Int → List Int → (Int → Option α) → Option α), f = fun α => @impl_natCmp.b α := ⟨_, rfl⟩
noncomputable def impl_natCmp {α : Type} : Nat → List Int → List Int → (Int → Option α) → Option α := Classical.choose impl_natCmp.ex α
theorem impl_natCmp.eq : @impl_natCmp = @impl_natCmp.b := funext fun α => congrFun (Classical.choose_spec impl_natCmp.ex) α

noncomputable def impl_trim_L0r {α : Type} (N : Nat) (next : List Int → Option α) (k0 : List Int → Option α) (v791 : List Int) : Option α :=
  let x792 := ((v791.length : Nat) : Int)
  let x793 := (decide ((0 : Int) < x792))
  bif x793 then
    let x794 := ((v791.length : Nat) : Int)
    let x795 := (IntKind.i64.wrap (x794 - (1 : Int)))
    bif (decide (x795 < (0 : Int))) then
      none
    else
      match v791[x795.toNat]? with
      | some x796 =>
        let x797 := (decide (x796 = (0 : Int)))
        bif x797 then
          let x798 := ((v791.length : Nat) : Int)
          let x799 := (IntKind.i64.wrap (x798 - (1 : Int)))
          bif (decide ((0 : Int) ≤ x799)) then
            bif (decide (x799 ≤ ((v791.length : Nat) : Int))) then
              let x800 := v791.take x799.toNat
              next x800
            else
              none
          else
            none
        else
          k0 v791
      | none => none
  else
    k0 v791
noncomputable def impl_trim_L0.b {α : Type} (N n : Nat) (v791 : List Int) (k0 : List Int → Option α) : Option α :=
  Nat.rec (motive := fun _ => List Int → Option α) (fun _ => none) (fun _ next => impl_trim_L0r N next k0) n v791
theorem impl_trim_L0.ex : ∃ f : ((α : Type) → Nat → Nat → List Int → (List Int → Option α) → Option α), f = fun α => @impl_trim_L0.b α := ⟨_, rfl⟩
noncomputable def impl_trim_L0 {α : Type} : Nat → Nat → List Int → (List Int → Option α) → Option α := Classical.choose impl_trim_L0.ex α
theorem impl_trim_L0.eq : @impl_trim_L0 = @impl_trim_L0.b := funext fun α => congrFun (Classical.choose_spec impl_trim_L0.ex) α
theorem impl_trim_L0.zero {α : Type} (N : Nat) (v791 : List Int) (k0 : List Int → Option α) : impl_trim_L0 N 0 v791 k0 = none := by rw [impl_trim_L0.eq]; rfl
theorem impl_trim_L0.succ {α : Type} (N n : Nat) (v791 : List Int) (k0 : List Int → Option α) : impl_trim_L0 N (n + 1) v791 k0 = impl_trim_L0r N (fun y0 => impl_trim_L0 N n y0 k0) k0 v791 := by rw [impl_trim_L0.eq]; rfl
/-- loop.example/pinfold/impl.trim -/
noncomputable def impl_trim.b {α : Type} (N : Nat) (a790 : List Int) (k0 : List Int → Option α) : Option α :=
  impl_trim_L0 N N a790
    (fun x801 =>
      k0 x801)
theorem impl_trim.ex : ∃ f : ((α : Type) → Nat → List Int → (List Int → Option α) → Option α), f = fun α => @impl_trim.b α := ⟨_, rfl⟩
noncomputable def impl_trim {α : Type} : Nat → List Int → (List Int → Option α) → Option α := Classical.choose impl_trim.ex α
theorem impl_trim.eq : @impl_trim = @impl_trim.b := funext fun α => congrFun (Classical.choose_spec impl_trim.ex) α

noncomputable def math_bits_Len64_J1.b {α : Type} (N : Nat) (v811 : Int) (v812 : Int) (k0 : Int → Int → Option α) : Option α :=
  let x813 := (decide ((4294967296 : Int) ≤ v811))
  bif x813 then
    let x814 := (shrI .u64 v811 (32 : Int))
    k0 x814 (32 : Int)
  else
    k0 v811 v812
theorem math_bits_Len64_J1.ex : ∃ f : ((α : Type) → Nat → Int → Int → (Int → Int → Option α) → Option α), f = fun α => @math_bits_Len64_J1.b α := ⟨_, rfl⟩
noncomputable def math_bits_Len64_J1 {α : Type} : Nat → Int → Int → (Int → Int → Option α) → Option α := Classical.choose math_bits_Len64_J1.ex α
theorem math_bits_Len64_J1.eq : @math_bits_Len64_J1 = @math_bits_Len64_J1.b := funext fun α => congrFun (Classical.choose_spec math_bits_Len64_J1.ex) α
noncomputable def math_bits_Len64_J4.b {α : Type} (N : Nat) (v817 : Int) (v818 : Int) (k0 : Int → Int → Option α) : Option α :=
  let x819 := (decide ((65536 : Int) ≤ v817))
  bif x819 then
    let x820 := (shrI .u64 v817 (16 : Int))
    let x821 := (IntKind.i64.wrap (v818 + (16 : Int)))
    k0 x820 x821
  else
    k0 v817 v818
theorem math_bits_Len64_J4.ex : ∃ f : ((α : Type) → Nat → Int → Int → (Int → Int → Option α) → Option α), f = fun α => @math_bits_Len64_J4.b α := ⟨_, rfl⟩
noncomputable def math_bits_Len64_J4 {α : Type} : Nat → Int → Int → (Int → Int → Option α) → Option α := Classical.choose math_bits_Len64_J4.ex α
theorem math_bits_Len64_J4.eq : @math_bits_Len64_J4 = @math_bits_Len64_J4.b := funext fun α => congrFun (Classical.choose_spec math_bits_Len64_J4.ex) α
noncomputable def math_bits_Len64_J7.b {α : Type} (N : Nat) (v824 : Int) (v825 : Int) (k0 : Int → Int → Option α) : Option α :=
  let x826 := (decide ((256 : Int) ≤ v824))
  bif x826 then
    let x827 := (shrI .u64 v824 (8 : Int))
    let x828 := (IntKind.i64.wrap (v825 + (8 : Int)))
    k0 x827 x828
  else
    k0 v824 v825
theorem math_bits_Len64_J7.ex : ∃ f : ((α : Type) → Nat → Int → Int → (Int → Int → Option α) → Option α), f = fun α => @math_bits_Len64_J7.b α := ⟨_, rfl⟩
noncomputable def math_bits_Len64_J7 {α : Type} : Nat → Int → Int → (Int → Int → Option α) → Option α := Classical.choose math_bits_Len64_J7.ex α
theorem math_bits_Len64_J7.eq : @math_bits_Len64_J7 = @math_bits_Len64_J7.b := funext fun α => congrFun (Classical.choose_spec math_bits_Len64_J7.ex) α
/-- math/bits.Len64 -/
noncomputable def math_bits_Len64.b {α : Type} (N : Nat) (a810 : Int) (k0 : Int → Option α) : Option α :=
  math_bits_Len64_J1 N a810 (0 : Int)
    (fun x815 x816 =>
      math_bits_Len64_J4 N x815 x816
        (fun x822 x823 =>
          math_bits_Len64_J7 N x822 x823
            (fun x829 x830 =>
              let x831 := IntKind.u8.wrap x829
              bif (decide (x831 < (0 : Int))) then
                none
              else
                match ((⟨#[0, 1, 2, 2, 3, 3, 3, 3, 4, 4, 4, 4, 4, 4, 4, 4, 5, 5, 5, 5, 5, 5, 5, 5, 5, 5, 5, 5, 5, 5, 5, 5, 6, 6, 6, 6, 6, 6, 6, 6, 6, 6, 6, 6, 6, 6, 6, 6, 6, 6, 6, 6, 6, 6, 6, 6, 6, 6, 6, 6, 6, 6, 6, 6, 7, 7, 7, 7, 7, 7, 7, 7, 7, 7, 7, 7, 7, 7, 7, 7, 7, 7, 7, 7, 7, 7, 7, 7, 7, 7, 7, 7, 7, 7, 7, 7, 7, 7, 7, 7, 7, 7, 7, 7, 7, 7, 7, 7, 7, 7, 7, 7, 7, 7, 7, 7, 7, 7, 7, 7, 7, 7, 7, 7, 7, 7, 7, 7, 8, 8, 8, 8, 8, 8, 8, 8, 8, 8, 8, 8, 8, 8, 8, 8, 8, 8, 8, 8, 8, 8, 8, 8, 8, 8, 8, 8, 8, 8, 8, 8, 8, 8, 8, 8, 8, 8, 8, 8, 8, 8, 8, 8, 8, 8, 8, 8, 8, 8, 8, 8, 8, 8, 8, 8, 8, 8, 8, 8, 8, 8, 8, 8, 8, 8, 8, 8, 8, 8, 8, 8, 8, 8, 8, 8, 8, 8, 8, 8, 8, 8, 8, 8, 8, 8, 8, 8, 8, 8, 8, 8, 8, 8, 8, 8, 8, 8, 8, 8, 8, 8, 8, 8, 8, 8, 8, 8, 8, 8, 8, 8, 8, 8, 8, 8, 8, 8, 8, 8, 8, 8, 8, 8, 8, 8, 8, 8]⟩ : ByteArray)[x831.toNat]? : Option UInt8) with
                | some x832 =>
                  let x833 := ((x832.toNat : Nat) : Int)
                  let x834 := IntKind.i64.wrap x833
                  let x835 := IntKind.i64.wrap (x830 + x834)
                  k0 x835
                | none => none)))
theorem math_bits_Len64.ex : ∃ f : ((α : Type) → Nat → Int → (Int → Option α) → Option α), f = fun α => @math_bits_Len64.b α := ⟨_, rfl⟩
noncomputable def math_bits_Len64 {α : Type} : Nat → Int → (Int → Option α) → Option α := Classical.choose math_bits_Len64.ex α
theorem math_bits_Len64.eq : @math_bits_Len64 = @math_bits_Len64.b := funext fun α => congrFun (Classical.choose_spec math_bits_Len64.ex) α

/-- math/bits.Len -/
noncomputable def math_bits_Len.b {α : Type} (N : Nat) (a809 : Int) (k0 : Int → Option α) : Option α :=
  math_bits_Len64 N a809
    (fun x836 =>
      k0 x836)
theorem math_bits_Len.ex : ∃ f : ((α : Type) → Nat → Int → (Int → Option α) → Option α), f = fun α => @math_bits_Len.b α := ⟨_, rfl⟩
noncomputable def math_bits_Len {α : Type} : Nat → Int → (Int → Option α) → Option α := Classical.choose math_bits_Len.ex α
theorem math_bits_Len.eq : @math_bits_Len = @math_bits_Len.b := funext fun α => congrFun (Classical.choose_spec math_bits_Len.ex) α

/-- slices.Clone[[]int,int] -/
noncomputable def slices_Clone_int_int {α : Type} (N : Nat) (a1 : List Int) (k0 : List Int → Option α) : Option α :=
  bif decide (([] : List Int).length + a1.length ≤ 8796093022208) then k0 a1 else none

noncomputable def impl_natShift_J10.b {α : Type} (N : Nat) (v915 : List Int) (v916 : Int) (v917 : Int) (v918 : Int) (v919 : Int) (v920 : Int) (v921 : List Int) (k0 : List Int → Int → Int → Int → Int → List Int → Option α) : Option α :=
  let x922 := IntKind.i64.wrap (v916 + v918)
  let x923 := (IntKind.i64.wrap (x922 + (1 : Int)))
  let x924 := ((v915.length : Nat) : Int)
  let x925 := decide (x923 < x924)
  bif x925 then
    bif (decide (v918 < (0 : Int))) then
      none
    else
      bif decide (v918.toNat < v921.length) then
        match v921[v918.toNat]? with
        | some x926 =>
          let x927 := IntKind.i64.wrap (v916 + v918)
          let x928 := (IntKind.i64.wrap (x927 + (1 : Int)))
          bif (decide (x928 < (0 : Int))) then
            none
          else
            match v915[x928.toNat]? with
            | some x929 =>
              let x930 := (IntKind.i64.wrap ((16 : Int) - v917))
              bif (decide (x930 < (0 : Int))) then
                none
              else
                let x931 := shlI .i64 x929 x930
                let x932 := (bitI .and .i64 x931 (65535 : Int))
                let x933 := bitI .or .i64 x926 x932
                bif (decide (v918 < (0 : Int))) then
                  none
                else
                  bif decide (v918.toNat < v921.length) then
                    match v921[v918.toNat]? with
                    | some x934 =>
                      let x935 := v921.set v918.toNat x933
                      k0 v915 v916 v917 v919 v920 x935
                    | none => none
                  else
                    none
            | none => none
        | none => none
      else
        none
  else
    k0 v915 v916 v917 v919 v920 v921
theorem impl_natShift_J10.ex : ∃ f : ((α : Type) → Nat → List Int → Int → Int → Int → Int → Int → List Int → (List Int → Int → Int → Int → Int → List Int → Option α) → Option α), f = fun α => @impl_natShift_J10.b α := ⟨_, rfl⟩
noncomputable def impl_natShift_J10 {α : Type} : Nat → List Int → Int → Int → Int → Int → Int → List Int → (List Int → Int → Int → Int → Int → List Int → Option α) → Option α := Classical.choose impl_natShift_J10.ex α
theorem impl_natShift_J10.eq : @impl_natShift_J10 = @impl_natShift_J10.b := funext fun α => congrFun (Classical.choose_spec impl_natShift_J10.ex) α
noncomputable def impl_natShift_L0r {α : Type} (N : Nat) (next : List Int → Int → Int → Int → Int → List Int → Option α) (k0 : List Int → Option α) (v904 : List Int) (v905 : Int) (v906 : Int) (v907 : Int) (v908 : Int) (v909 : List Int) : Option α :=
  let x910 := decide (v908 < v907)
  bif x910 then
    bif (decide (v908 < (0 : Int))) then
      none
    else
      bif decide (v908.toNat < v909.length) then
        match v909[v908.toNat]? with
        | some x911 =>
          bif (decide (v906 < (0 : Int))) then
            none
          else
            let x912 := shrI .i64 x911 v906
            bif (decide (v908 < (0 : Int))) then
              none
            else
              bif decide (v908.toNat < v909.length) then
                match v909[v908.toNat]? with
                | some x913 =>
                  let x914 := v909.set v908.toNat x912
                  impl_natShift_J10 N v904 v905 v906 v908 v907 v908 x914
                    (fun x936 x937 x938 x939 x940 x941 =>
                      let x942 := (IntKind.i64.wrap (x940 + (1 : Int)))
                      next x936 x937 x938 x939 x942 x941)
                | none => none
              else
                none
        | none => none
      else
        none
  else
    k0 v909
noncomputable def impl_natShift_L0.b {α : Type} (N n : Nat) (v904 : List Int) (v905 : Int) (v906 : Int) (v907 : Int) (v908 : Int) (v909 : List Int) (k0 : List Int → Option α) : Option α :=
  Nat.rec (motive := fun _ => List Int → Int → Int → Int → Int → List Int → Option α) (fun _ _ _ _ _ _ => none) (fun _ next => impl_natShift_L0r N next k0) n v904 v905 v906 v907 v908 v909
theorem impl_natShift_L0.ex : ∃ f : ((α : Type) → Nat → Nat → List Int → Int → Int → Int → Int → List Int → (List Int → Option α) → Option α), f = fun α => @impl_natShift_L0.b α := ⟨_, rfl⟩
noncomputable def impl_natShift_L0 {α : Type} : Nat → Nat → List Int → Int → Int → Int → Int → List Int → (List Int → Option α) → Option α := Classical.choose impl_natShift_L0.ex α
theorem impl_natShift_L0.eq : @impl_natShift_L0 = @impl_natShift_L0.b := funext fun α => congrFun (Classical.choose_spec impl_natShift_L0.ex) α
theorem impl_natShift_L0.zero {α : Type} (N : Nat) (v904 : List Int) (v905 : Int) (v906 : Int) (v907 : Int) (v908 : Int) (v909 : List Int) (k0 : List Int → Option α) : impl_natShift_L0 N 0 v904 v905 v906 v907 v908 v909 k0 = none := by rw [impl_natShift_L0.eq]; rfl
theorem impl_natShift_L0.succ {α : Type} (N n : Nat) (v904 : List Int) (v905 : Int) (v906 : Int) (v907 : Int) (v908 : Int) (v909 : List Int) (k0 : List Int → Option α) : impl_natShift_L0 N (n + 1) v904 v905 v906 v907 v908 v909 k0 = impl_natShift_L0r N (fun y0 y1 y2 y3 y4 y5 => impl_natShift_L0 N n y0 y1 y2 y3 y4 y5 k0) k0 v904 v905 v906 v907 v908 v909 := by rw [impl_natShift_L0.eq]; rfl
noncomputable def impl_natShift_L2r {α : Type} (N : Nat) (next : Int → List Int → Int → Int → List Int → Option α) (k0 : List Int → Option α) (v951 : Int) (v952 : List Int) (v953 : Int) (v954 : Int) (v955 : List Int) : Option α :=
  let x956 := decide (v954 < v953)
  bif x956 then
    bif (decide (v954 < (0 : Int))) then
      none
    else
      match v952[v954.toNat]? with
      | some x957 =>
        let x958 := (Int.tmod v951 (16 : Int))
        bif (decide (x958 < (0 : Int))) then
          none
        else
          let x959 := shlI .i64 x957 x958
          let x960 := (IntKind.i64.wrap (Int.tdiv v951 (16 : Int)))
          let x961 := IntKind.i64.wrap (x960 + v954)
          bif (decide (x961 < (0 : Int))) then
            none
          else
            bif decide (x961.toNat < v955.length) then
              match v955[x961.toNat]? with
              | some x962 =>
                let x963 := (bitI .and .i64 x959 (65535 : Int))
                let x964 := bitI .or .i64 x962 x963
                bif (decide (x961 < (0 : Int))) then
                  none
                else
                  bif decide (x961.toNat < v955.length) then
                    match v955[x961.toNat]? with
                    | some x965 =>
                      let x966 := v955.set x961.toNat x964
                      let x967 := (IntKind.i64.wrap (Int.tdiv v951 (16 : Int)))
                      let x968 := IntKind.i64.wrap (x967 + v954)
                      let x969 := (IntKind.i64.wrap (x968 + (1 : Int)))
                      let x970 := (shrI .i64 x959 (16 : Int))
                      bif (decide (x969 < (0 : Int))) then
                        none
                      else
                        bif decide (x969.toNat < x966.length) then
                          match x966[x969.toNat]? with
                          | some x971 =>
                            let x972 := x966.set x969.toNat x970
                            let x973 := (IntKind.i64.wrap (v954 + (1 : Int)))
                            next v951 v952 v953 x973 x972
                          | none => none
                        else
                          none
                    | none => none
                  else
                    none
              | none => none
            else
              none
      | none => none
  else
    k0 v955
noncomputable def impl_natShift_L2.b {α : Type} (N n : Nat) (v951 : Int) (v952 : List Int) (v953 : Int) (v954 : Int) (v955 : List Int) (k0 : List Int → Option α) : Option α :=
  Nat.rec (motive := fun _ => Int → List Int → Int → Int → List Int → Option α) (fun _ _ _ _ _ => none) (fun _ next => impl_natShift_L2r N next k0) n v951 v952 v953 v954 v955
theorem impl_natShift_L2.ex : ∃ f : ((α : Type) → Nat → Nat → Int → List Int → Int → Int → List Int → (List Int → Option α) → Option α), f = fun α => @impl_natShift_L2.b α := ⟨_, rfl⟩
noncomputable def impl_natShift_L2 {α : Type} : Nat → Nat → Int → List Int → Int → Int → List Int → (List Int → Option α) → Option α := Classical.choose impl_natShift_L2.ex α
theorem impl_natShift_L2.eq : @impl_natShift_L2 = @impl_natShift_L2.b := funext fun α => congrFun (Classical.choose_spec impl_natShift_L2.ex) α
theorem impl_natShift_L2.zero {α : Type} (N : Nat) (v951 : Int) (v952 : List Int) (v953 : Int) (v954 : Int) (v955 : List Int) (k0 : List Int → Option α) : impl_natShift_L2 N 0 v951 v952 v953 v954 v955 k0 = none := by rw [impl_natShift_L2.eq]; rfl
theorem impl_natShift_L2.succ {α : Type} (N n : Nat) (v951 : Int) (v952 : List Int) (v953 : Int) (v954 : Int) (v955 : List Int) (k0 : List Int → Option α) : impl_natShift_L2 N (n + 1) v951 v952 v953 v954 v955 k0 = impl_natShift_L2r N (fun y0 y1 y2 y3 y4 => impl_natShift_L2 N n y0 y1 y2 y3 y4 k0) k0 v951 v952 v953 v954 v955 := by rw [impl_natShift_L2.eq]; rfl
/-- loop.example/pinfold/impl.natShift -/
noncomputable def impl_natShift.b {α : Type} (N : Nat) (a892 : List Int) (a893 : Int) (k0 : List Int → Option α) : Option α :=
  let x894 := (decide (a893 < (0 : Int)))
  bif x894 then
    let x895 := IntKind.i64.wrap (0 - a893)
    let x896 := (IntKind.i64.wrap (Int.tdiv x895 (16 : Int)))
    let x897 := IntKind.i64.wrap (0 - a893)
    let x898 := (Int.tmod x897 (16 : Int))
    let x899 := ((a892.length : Nat) : Int)
    let x900 := decide (x899 ≤ x896)
    bif x900 then
      k0 []
    else
      bif (decide ((0 : Int) ≤ x896)) then
        bif (decide (x896 ≤ ((a892.length : Nat) : Int))) then
          let x901 := a892.drop x896.toNat
          slices_Clone_int_int N x901
            (fun x902 =>
              let x903 := ((x902.length : Nat) : Int)
              impl_natShift_L0 N N a892 x896 x898 x903 (0 : Int) x902
                (fun x943 =>
                  impl_trim N x943
                    (fun x944 =>
                      k0 x944)))
        else
          none
      else
        none
  else
    let x945 := (IntKind.i64.wrap (Int.tdiv a893 (16 : Int)))
    let x946 := ((a892.length : Nat) : Int)
    let x947 := IntKind.i64.wrap (x945 + x946)
    let x948 := (IntKind.i64.wrap (x947 + (1 : Int)))
    bif (decide ((0 : Int) ≤ x948)) then
      bif decide (x948 ≤ x948) then
        bif (decide (x948 ≤ ((8796093022208 : Nat) : Int))) then
          let x949 := (List.replicate x948.toNat (0 : Int))
          let x950 := ((a892.length : Nat) : Int)
          impl_natShift_L2 N N a893 a892 x950 (0 : Int) x949
            (fun x974 =>
              impl_trim N x974
                (fun x975 =>
                  k0 x975))
        else
          none
      else
        none
    else
      none
theorem impl_natShift.ex : ∃ f : ((α : Type) → Nat → List Int → Int → (List Int → Option α) → Option α), f = fun α => @impl_natShift.b α := ⟨_, rfl⟩
noncomputable def impl_natShift {α : Type} : Nat → List Int → Int → (List Int → Option α) → Option α := Classical.choose impl_natShift.ex α
theorem impl_natShift.eq : @impl_natShift = @impl_natShift.b := funext fun α => congrFun (Classical.choose_spec impl_natShift.ex) α

noncomputable def impl_natDiv_L0r {α : Type} (N : Nat) (next : List Int → List Int → Int → Int → List Int → Option α) (k0 : Int → List Int → Option α) (v772 : List Int) (v773 : List Int) (v774 : Int) (v775 : Int) (v776 : List Int) : Option α :=
  let x777 := (decide ((0 : Int) ≤ v775))
  bif x777 then
    let x778 := (shlI .i64 v774 (16 : Int))
    bif (decide (v775 < (0 : Int))) then
      none
    else
      match v772[v775.toNat]? with
      | some x779 =>
        let x780 := bitI .or .i64 x778 x779
        match v773[0]? with
        | some x781 =>
          bif (decide (x781 = (0 : Int))) then
            none
          else
            let x782 := IntKind.i64.wrap (Int.tdiv x780 x781)
            match v773[0]? with
            | some x783 =>
              bif (decide (x783 = (0 : Int))) then
                none
              else
                let x784 := Int.tmod x780 x783
                bif (decide (v775 < (0 : Int))) then
                  none
                else
                  bif decide (v775.toNat < v776.length) then
                    match v776[v775.toNat]? with
                    | some x785 =>
                      let x786 := v776.set v775.toNat x782
                      let x787 := (IntKind.i64.wrap (v775 - (1 : Int)))
                      next v772 v773 x784 x787 x786
                    | none => none
                  else
                    none
            | none => none
        | none => none
      | none => none
  else
    k0 v774 v776
noncomputable def impl_natDiv_L0.b {α : Type} (N n : Nat) (v772 : List Int) (v773 : List Int) (v774 : Int) (v775 : Int) (v776 : List Int) (k0 : Int → List Int → Option α) : Option α :=
  Nat.rec (motive := fun _ => List Int → List Int → Int → Int → List Int → Option α) (fun _ _ _ _ _ => none) (fun _ next => impl_natDiv_L0r N next k0) n v772 v773 v774 v775 v776
theorem impl_natDiv_L0.ex : ∃ f : ((α : Type) → Nat → Nat → List Int → List Int → Int → Int → List Int → (Int → List Int → Option α) → Option α), f = fun α => @impl_natDiv_L0.b α := ⟨_, rfl⟩
noncomputable def impl_natDiv_L0 {α : Type} : Nat → Nat → List Int → List Int → Int → Int → List Int → (Int → List Int → Option α) → Option α := Classical.choose impl_natDiv_L0.ex α
theorem impl_natDiv_L0.eq : @impl_natDiv_L0 = @impl_natDiv_L0.b := funext fun α => congrFun (Classical.choose_spec impl_natDiv_L0.ex) α
theorem impl_natDiv_L0.zero {α : Type} (N : Nat) (v772 : List Int) (v773 : List Int) (v774 : Int) (v775 : Int) (v776 : List Int) (k0 : Int → List Int → Option α) : impl_natDiv_L0 N 0 v772 v773 v774 v775 v776 k0 = none := by rw [impl_natDiv_L0.eq]; rfl
theorem impl_natDiv_L0.succ {α : Type} (N n : Nat) (v772 : List Int) (v773 : List Int) (v774 : Int) (v775 : Int) (v776 : List Int) (k0 : Int → List Int → Option α) : impl_natDiv_L0 N (n + 1) v772 v773 v774 v775 v776 k0 = impl_natDiv_L0r N (fun y0 y1 y2 y3 y4 => impl_natDiv_L0 N n y0 y1 y2 y3 y4 k0) k0 v772 v773 v774 v775 v776 := by rw [impl_natDiv_L0.eq]; rfl
noncomputable def impl_natDiv_L2r {α : Type} (N : Nat) (next : List Int → Int → List Int → Int → List Int → Option α) (k0 : Int → List Int → Int → List Int → Option α) (v982 : List Int) (v983 : Int) (v984 : List Int) (v985 : Int) (v986 : List Int) : Option α :=
  let x987 := ((v986.length : Nat) : Int)
  let x988 := ((v982.length : Nat) : Int)
  let x989 := (IntKind.i64.wrap (x988 + (1 : Int)))
  let x990 := decide (x987 < x989)
  bif x990 then
    let x991 := [(0 : Int)]
    bif decide (v986.length + x991.length ≤ 8796093022208) then
      let x992 := v986 ++ x991
      next v982 v983 v984 v985 x992
    else
      none
  else
    k0 v983 v984 v985 v986
noncomputable def impl_natDiv_L2.b {α : Type} (N n : Nat) (v982 : List Int) (v983 : Int) (v984 : List Int) (v985 : Int) (v986 : List Int) (k0 : Int → List Int → Int → List Int → Option α) : Option α :=
  Nat.rec (motive := fun _ => List Int → Int → List Int → Int → List Int → Option α) (fun _ _ _ _ _ => none) (fun _ next => impl_natDiv_L2r N next k0) n v982 v983 v984 v985 v986
theorem impl_natDiv_L2.ex : ∃ f : ((α : Type) → Nat → Nat → List Int → Int → List Int → Int → List Int → (Int → List Int → Int → List Int → Option α) → Option α), f = fun α => @impl_natDiv_L2.b α := ⟨_, rfl⟩
noncomputable def impl_natDiv_L2 {α : Type} : Nat → Nat → List Int → Int → List Int → Int → List Int → (Int → List Int → Int → List Int → Option α) → Option α := Classical.choose impl_natDiv_L2.ex α
theorem impl_natDiv_L2.eq : @impl_natDiv_L2 = @impl_natDiv_L2.b := funext fun α => congrFun (Classical.choose_spec impl_natDiv_L2.ex) α
theorem impl_natDiv_L2.zero {α : Type} (N : Nat) (v982 : List Int) (v983 : Int) (v984 : List Int) (v985 : Int) (v986 : List Int) (k0 : Int → List Int → Int → List Int → Option α) : impl_natDiv_L2 N 0 v982 v983 v984 v985 v986 k0 = none := by rw [impl_natDiv_L2.eq]; rfl
theorem impl_natDiv_L2.succ {α : Type} (N n : Nat) (v982 : List Int) (v983 : Int) (v984 : List Int) (v985 : Int) (v986 : List Int) (k0 : Int → List Int → Int → List Int → Option α) : impl_natDiv_L2 N (n + 1) v982 v983 v984 v985 v986 k0 = impl_natDiv_L2r N (fun y0 y1 y2 y3 y4 => impl_natDiv_L2 N n y0 y1 y2 y3 y4 k0) k0 v982 v983 v984 v985 v986 := by rw [impl_natDiv_L2.eq]; rfl
noncomputable def impl_natDiv_L6r {α : Type} (N : Nat) (next : Int → List Int → Int → Int → Int → Int → List Int → List Int → Option α) (k0 : Int → List Int → Int → Int → Int → List Int → List Int → Option α) (v1023 : Int) (v1024 : List Int) (v1025 : Int) (v1026 : Int) (v1027 : Int) (v1028 : Int) (v1029 : List Int) (v1030 : List Int) : Option α :=
  let x1031 := (decide ((65536 : Int) ≤ v1027))
  bif x1031 then
    let x1032 := (IntKind.i64.wrap (v1027 - (1 : Int)))
    let x1033 := (IntKind.i64.wrap (v1025 - (1 : Int)))
    bif (decide (x1033 < (0 : Int))) then
      none
    else
      match v1024[x1033.toNat]? with
      | some x1034 =>
        let x1035 := IntKind.i64.wrap (v1028 + x1034)
        let x1036 := (decide ((65536 : Int) ≤ x1035))
        bif x1036 then
          k0 v1023 v1024 v1025 v1026 x1032 v1029 v1030
        else
          next v1023 v1024 v1025 v1026 x1032 x1035 v1029 v1030
      | none => none
  else
    let x1037 := (IntKind.i64.wrap (v1025 - (2 : Int)))
    bif (decide (x1037 < (0 : Int))) then
      none
    else
      match v1024[x1037.toNat]? with
      | some x1038 =>
        let x1039 := IntKind.i64.wrap (v1027 * x1038)
        let x1040 := (shlI .i64 v1028 (16 : Int))
        let x1041 := IntKind.i64.wrap (v1026 + v1025)
        let x1042 := (IntKind.i64.wrap (x1041 - (2 : Int)))
        bif (decide (x1042 < (0 : Int))) then
          none
        else
          bif decide (x1042.toNat < v1029.length) then
            match v1029[x1042.toNat]? with
            | some x1043 =>
              let x1044 := bitI .or .i64 x1040 x1043
              let x1045 := decide (x1044 < x1039)
              bif x1045 then
                let x1046 := (IntKind.i64.wrap (v1027 - (1 : Int)))
                let x1047 := (IntKind.i64.wrap (v1025 - (1 : Int)))
                bif (decide (x1047 < (0 : Int))) then
                  none
                else
                  match v1024[x1047.toNat]? with
                  | some x1048 =>
                    let x1049 := IntKind.i64.wrap (v1028 + x1048)
                    let x1050 := (decide ((65536 : Int) ≤ x1049))
                    bif x1050 then
                      k0 v1023 v1024 v1025 v1026 x1046 v1029 v1030
                    else
                      next v1023 v1024 v1025 v1026 x1046 x1049 v1029 v1030
                  | none => none
              else
                k0 v1023 v1024 v1025 v1026 v1027 v1029 v1030
            | none => none
          else
            none
      | none => none
noncomputable def impl_natDiv_L6.b {α : Type} (N n : Nat) (v1023 : Int) (v1024 : List Int) (v1025 : Int) (v1026 : Int) (v1027 : Int) (v1028 : Int) (v1029 : List Int) (v1030 : List Int) (k0 : Int → List Int → Int → Int → Int → List Int → List Int → Option α) : Option α :=
  Nat.rec (motive := fun _ => Int → List Int → Int → Int → Int → Int → List Int → List Int → Option α) (fun _ _ _ _ _ _ _ _ => none) (fun _ next => impl_natDiv_L6r N next k0) n v1023 v1024 v1025 v1026 v1027 v1028 v1029 v1030
theorem impl_natDiv_L6.ex : ∃ f : ((α : Type) → Nat → Nat → Int → List Int → Int → Int → Int → Int → List Int → List Int → (Int → List Int → Int → Int → Int → List Int → List Int → Option α) → Option α), f = fun α => @impl_natDiv_L6.b α := ⟨_, rfl⟩
noncomputable def impl_natDiv_L6 {α : Type} : Nat → Nat → Int → List Int → Int → Int → Int → Int → List Int → List Int → (Int → List Int → Int → Int → Int → List Int → List Int → Option α) → Option α := Classical.choose impl_natDiv_L6.ex α
theorem impl_natDiv_L6.eq : @impl_natDiv_L6 = @impl_natDiv_L6.b := funext fun α => congrFun (Classical.choose_spec impl_natDiv_L6.ex) α
theorem impl_natDiv_L6.zero {α : Type} (N : Nat) (v1023 : Int) (v1024 : List Int) (v1025 : Int) (v1026 : Int) (v1027 : Int) (v1028 : Int) (v1029 : List Int) (v1030 : List Int) (k0 : Int → List Int → Int → Int → Int → List Int → List Int → Option α) : impl_natDiv_L6 N 0 v1023 v1024 v1025 v1026 v1027 v1028 v1029 v1030 k0 = none := by rw [impl_natDiv_L6.eq]; rfl
theorem impl_natDiv_L6.succ {α : Type} (N n : Nat) (v1023 : Int) (v1024 : List Int) (v1025 : Int) (v1026 : Int) (v1027 : Int) (v1028 : Int) (v1029 : List Int) (v1030 : List Int) (k0 : Int → List Int → Int → Int → Int → List Int → List Int → Option α) : impl_natDiv_L6 N (n + 1) v1023 v1024 v1025 v1026 v1027 v1028 v1029 v1030 k0 = impl_natDiv_L6r N (fun y0 y1 y2 y3 y4 y5 y6 y7 => impl_natDiv_L6 N n y0 y1 y2 y3 y4 y5 y6 y7 k0) k0 v1023 v1024 v1025 v1026 v1027 v1028 v1029 v1030 := by rw [impl_natDiv_L6.eq]; rfl
noncomputable def impl_natDiv_J34.b {α : Type} (N : Nat) (v1077 : Int) (v1078 : List Int) (v1079 : Int) (v1080 : Int) (v1081 : Int) (v1082 : Int) (v1083 : Int) (v1084 : Int) (v1085 : List Int) (v1086 : Int) (v1087 : Int) (v1088 : List Int) (v1089 : List Int) (k0 : Int → List Int → Int → Int → Int → Int → Int → Int → List Int → Int → Int → List Int → List Int → Option α) : Option α :=
  let x1090 := (decide (v1084 < (0 : Int)))
  bif x1090 then
    let x1091 := IntKind.i64.wrap (0 - v1084)
    let x1092 := (IntKind.i64.wrap (x1091 + (65536 : Int)))
    let x1093 := (IntKind.i64.wrap (x1092 - (1 : Int)))
    let x1094 := (IntKind.i64.wrap (Int.tdiv x1093 (65536 : Int)))
    let x1095 := (IntKind.i64.wrap (x1094 * (65536 : Int)))
    let x1096 := IntKind.i64.wrap (v1084 + x1095)
    k0 v1077 v1078 v1079 v1080 v1081 x1094 v1083 x1096 v1085 v1086 v1087 v1088 v1089
  else
    k0 v1077 v1078 v1079 v1080 v1081 v1082 v1083 v1084 v1085 v1086 v1087 v1088 v1089
theorem impl_natDiv_J34.ex : ∃ f : ((α : Type) → Nat → Int → List Int → Int → Int → Int → Int → Int → Int → List Int → Int → Int → List Int → List Int → (Int → List Int → Int → Int → Int → Int → Int → Int → List Int → Int → Int → List Int → List Int → Option α) → Option α), f = fun α => @impl_natDiv_J34.b α := ⟨_, rfl⟩
noncomputable def impl_natDiv_J34 {α : Type} : Nat → Int → List Int → Int → Int → Int → Int → Int → Int → List Int → Int → Int → List Int → List Int → (Int → List Int → Int → Int → Int → Int → Int → Int → List Int → Int → Int → List Int → List Int → Option α) → Option α := Classical.choose impl_natDiv_J34.ex α
theorem impl_natDiv_J34.eq : @impl_natDiv_J34 = @impl_natDiv_J34.b := funext fun α => congrFun (Classical.choose_spec impl_natDiv_J34.ex) α
noncomputable def impl_natDiv_L8r {α : Type} (N : Nat) (next : Int → List Int → Int → Int → Int → Int → List Int → Int → Int → List Int → List Int → Option α) (k0 : Int → List Int → Int → Int → Int → Int → List Int → List Int → Option α) (v1059 : Int) (v1060 : List Int) (v1061 : Int) (v1062 : Int) (v1063 : Int) (v1064 : Int) (v1065 : List Int) (v1066 : Int) (v1067 : Int) (v1068 : List Int) (v1069 : List Int) : Option α :=
  let x1070 := decide (v1067 < v1066)
  bif x1070 then
    bif (decide (v1067 < (0 : Int))) then
      none
    else
      match v1065[v1067.toNat]? with
      | some x1071 =>
        let x1072 := IntKind.i64.wrap (v1062 + v1067)
        bif (decide (x1072 < (0 : Int))) then
          none
        else
          bif decide (x1072.toNat < v1068.length) then
            match v1068[x1072.toNat]? with
            | some x1073 =>
              let x1074 := IntKind.i64.wrap (x1073 - v1064)
              let x1075 := IntKind.i64.wrap (v1063 * x1071)
              let x1076 := IntKind.i64.wrap (x1074 - x1075)
              impl_natDiv_J34 N v1059 v1060 v1061 v1062 v1063 (0 : Int) v1067 x1076 v1065 v1066 v1067 v1068 v1069
                (fun x1097 x1098 x1099 x1100 x1101 x1102 x1103 x1104 x1105 x1106 x1107 x1108 x1109 =>
                  let x1110 := IntKind.i64.wrap (x1100 + x1103)
                  bif (decide (x1110 < (0 : Int))) then
                    none
                  else
                    bif decide (x1110.toNat < x1108.length) then
                      match x1108[x1110.toNat]? with
                      | some x1111 =>
                        let x1112 := x1108.set x1110.toNat x1104
                        let x1113 := (IntKind.i64.wrap (x1107 + (1 : Int)))
                        next x1097 x1098 x1099 x1100 x1101 x1102 x1105 x1106 x1113 x1112 x1109
                      | none => none
                    else
                      none)
            | none => none
          else
            none
      | none => none
  else
    k0 v1059 v1060 v1061 v1062 v1063 v1064 v1068 v1069
noncomputable def impl_natDiv_L8.b {α : Type} (N n : Nat) (v1059 : Int) (v1060 : List Int) (v1061 : Int) (v1062 : Int) (v1063 : Int) (v1064 : Int) (v1065 : List Int) (v1066 : Int) (v1067 : Int) (v1068 : List Int) (v1069 : List Int) (k0 : Int → List Int → Int → Int → Int → Int → List Int → List Int → Option α) : Option α :=
  Nat.rec (motive := fun _ => Int → List Int → Int → Int → Int → Int → List Int → Int → Int → List Int → List Int → Option α) (fun _ _ _ _ _ _ _ _ _ _ _ => none) (fun _ next => impl_natDiv_L8r N next k0) n v1059 v1060 v1061 v1062 v1063 v1064 v1065 v1066 v1067 v1068 v1069
theorem impl_natDiv_L8.ex : ∃ f : ((α : Type) → Nat → Nat → Int → List Int → Int → Int → Int → Int → List Int → Int → Int → List Int → List Int → (Int → List Int → Int → Int → Int → Int → List Int → List Int → Option α) → Option α), f = fun α => @impl_natDiv_L8.b α := ⟨_, rfl⟩
noncomputable def impl_natDiv_L8 {α : Type} : Nat → Nat → Int → List Int → Int → Int → Int → Int → List Int → Int → Int → List Int → List Int → (Int → List Int → Int → Int → Int → Int → List Int → List Int → Option α) → Option α := Classical.choose impl_natDiv_L8.ex α
theorem impl_natDiv_L8.eq : @impl_natDiv_L8 = @impl_natDiv_L8.b := funext fun α => congrFun (Classical.choose_spec impl_natDiv_L8.ex) α
theorem impl_natDiv_L8.zero {α : Type} (N : Nat) (v1059 : Int) (v1060 : List Int) (v1061 : Int) (v1062 : Int) (v1063 : Int) (v1064 : Int) (v1065 : List Int) (v1066 : Int) (v1067 : Int) (v1068 : List Int) (v1069 : List Int) (k0 : Int → List Int → Int → Int → Int → Int → List Int → List Int → Option α) : impl_natDiv_L8 N 0 v1059 v1060 v1061 v1062 v1063 v1064 v1065 v1066 v1067 v1068 v1069 k0 = none := by rw [impl_natDiv_L8.eq]; rfl
theorem impl_natDiv_L8.succ {α : Type} (N n : Nat) (v1059 : Int) (v1060 : List Int) (v1061 : Int) (v1062 : Int) (v1063 : Int) (v1064 : Int) (v1065 : List Int) (v1066 : Int) (v1067 : Int) (v1068 : List Int) (v1069 : List Int) (k0 : Int → List Int → Int → Int → Int → Int → List Int → List Int → Option α) : impl_natDiv_L8 N (n + 1) v1059 v1060 v1061 v1062 v1063 v1064 v1065 v1066 v1067 v1068 v1069 k0 = impl_natDiv_L8r N (fun y0 y1 y2 y3 y4 y5 y6 y7 y8 y9 y10 => impl_natDiv_L8 N n y0 y1 y2 y3 y4 y5 y6 y7 y8 y9 y10 k0) k0 v1059 v1060 v1061 v1062 v1063 v1064 v1065 v1066 v1067 v1068 v1069 := by rw [impl_natDiv_L8.eq]; rfl
noncomputable def impl_natDiv_L10r {α : Type} (N : Nat) (next : Int → List Int → Int → Int → Int → Int → List Int → Int → Int → List Int → List Int → Option α) (k0 : Int → List Int → Int → Int → Int → Int → List Int → List Int → Option α) (v1139 : Int) (v1140 : List Int) (v1141 : Int) (v1142 : Int) (v1143 : Int) (v1144 : Int) (v1145 : List Int) (v1146 : Int) (v1147 : Int) (v1148 : List Int) (v1149 : List Int) : Option α :=
  let x1150 := decide (v1147 < v1146)
  bif x1150 then
    bif (decide (v1147 < (0 : Int))) then
      none
    else
      match v1145[v1147.toNat]? with
      | some x1151 =>
        let x1152 := IntKind.i64.wrap (v1142 + v1147)
        bif (decide (x1152 < (0 : Int))) then
          none
        else
          bif decide (x1152.toNat < v1148.length) then
            match v1148[x1152.toNat]? with
            | some x1153 =>
              let x1154 := IntKind.i64.wrap (x1153 + x1151)
              let x1155 := IntKind.i64.wrap (x1154 + v1144)
              let x1156 := IntKind.i64.wrap (v1142 + v1147)
              let x1157 := (bitI .and .i64 x1155 (65535 : Int))
              let x1158 := (shrI .i64 x1155 (16 : Int))
              bif (decide (x1156 < (0 : Int))) then
                none
              else
                bif decide (x1156.toNat < v1148.length) then
                  match v1148[x1156.toNat]? with
                  | some x1159 =>
                    let x1160 := v1148.set x1156.toNat x1157
                    let x1161 := (IntKind.i64.wrap (v1147 + (1 : Int)))
                    next v1139 v1140 v1141 v1142 v1143 x1158 v1145 v1146 x1161 x1160 v1149
                  | none => none
                else
                  none
            | none => none
          else
            none
      | none => none
  else
    k0 v1139 v1140 v1141 v1142 v1143 v1144 v1148 v1149
noncomputable def impl_natDiv_L10.b {α : Type} (N n : Nat) (v1139 : Int) (v1140 : List Int) (v1141 : Int) (v1142 : Int) (v1143 : Int) (v1144 : Int) (v1145 : List Int) (v1146 : Int) (v1147 : Int) (v1148 : List Int) (v1149 : List Int) (k0 : Int → List Int → Int → Int → Int → Int → List Int → List Int → Option α) : Option α :=
  Nat.rec (motive := fun _ => Int → List Int → Int → Int → Int → Int → List Int → Int → Int → List Int → List Int → Option α) (fun _ _ _ _ _ _ _ _ _ _ _ => none) (fun _ next => impl_natDiv_L10r N next k0) n v1139 v1140 v1141 v1142 v1143 v1144 v1145 v1146 v1147 v1148 v1149
theorem impl_natDiv_L10.ex : ∃ f : ((α : Type) → Nat → Nat → Int → List Int → Int → Int → Int → Int → List Int → Int → Int → List Int → List Int → (Int → List Int → Int → Int → Int → Int → List Int → List Int → Option α) → Option α), f = fun α => @impl_natDiv_L10.b α := ⟨_, rfl⟩
noncomputable def impl_natDiv_L10 {α : Type} : Nat → Nat → Int → List Int → Int → Int → Int → Int → List Int → Int → Int → List Int → List Int → (Int → List Int → Int → Int → Int → Int → List Int → List Int → Option α) → Option α := Classical.choose impl_natDiv_L10.ex α
theorem impl_natDiv_L10.eq : @impl_natDiv_L10 = @impl_natDiv_L10.b := funext fun α => congrFun (Classical.choose_spec impl_natDiv_L10.ex) α
theorem impl_natDiv_L10.zero {α : Type} (N : Nat) (v1139 : Int) (v1140 : List Int) (v1141 : Int) (v1142 : Int) (v1143 : Int) (v1144 : Int) (v1145 : List Int) (v1146 : Int) (v1147 : Int) (v1148 : List Int) (v1149 : List Int) (k0 : Int → List Int → Int → Int → Int → Int → List Int → List Int → Option α) : impl_natDiv_L10 N 0 v1139 v1140 v1141 v1142 v1143 v1144 v1145 v1146 v1147 v1148 v1149 k0 = none := by rw [impl_natDiv_L10.eq]; rfl
theorem impl_natDiv_L10.succ {α : Type} (N n : Nat) (v1139 : Int) (v1140 : List Int) (v1141 : Int) (v1142 : Int) (v1143 : Int) (v1144 : Int) (v1145 : List Int) (v1146 : Int) (v1147 : Int) (v1148 : List Int) (v1149 : List Int) (k0 : Int → List Int → Int → Int → Int → Int → List Int → List Int → Option α) : impl_natDiv_L10 N (n + 1) v1139 v1140 v1141 v1142 v1143 v1144 v1145 v1146 v1147 v1148 v1149 k0 = impl_natDiv_L10r N (fun y0 y1 y2 y3 y4 y5 y6 y7 y8 y9 y10 => impl_natDiv_L10 N n y0 y1 y2 y3 y4 y5 y6 y7 y8 y9 y10 k0) k0 v1139 v1140 v1141 v1142 v1143 v1144 v1145 v1146 v1147 v1148 v1149 := by rw [impl_natDiv_L10.eq]; rfl
noncomputable def impl_natDiv_J40.b {α : Type} (N : Nat) (v1127 : Int) (v1128 : List Int) (v1129 : Int) (v1130 : Int) (v1131 : Int) (v1132 : List Int) (v1133 : List Int) (k0 : Int → List Int → Int → Int → Int → List Int → List Int → Option α) : Option α :=
  let x1134 := IntKind.i64.wrap (v1130 + v1129)
  bif (decide (x1134 < (0 : Int))) then
    none
  else
    bif decide (x1134.toNat < v1132.length) then
      match v1132[x1134.toNat]? with
      | some x1135 =>
        let x1136 := (decide (x1135 < (0 : Int)))
        bif x1136 then
          let x1137 := (IntKind.i64.wrap (v1131 - (1 : Int)))
          let x1138 := ((v1128.length : Nat) : Int)
          impl_natDiv_L10 N N v1127 v1128 v1129 v1130 x1137 (0 : Int) v1128 x1138 (0 : Int) v1132 v1133
            (fun x1162 x1163 x1164 x1165 x1166 x1167 x1168 x1169 =>
              let x1170 := IntKind.i64.wrap (x1165 + x1164)
              bif (decide (x1170 < (0 : Int))) then
                none
              else
                bif decide (x1170.toNat < x1168.length) then
                  match x1168[x1170.toNat]? with
                  | some x1171 =>
                    let x1172 := IntKind.i64.wrap (x1171 + x1167)
                    bif (decide (x1170 < (0 : Int))) then
                      none
                    else
                      bif decide (x1170.toNat < x1168.length) then
                        match x1168[x1170.toNat]? with
                        | some x1173 =>
                          let x1174 := x1168.set x1170.toNat x1172
                          k0 x1162 x1163 x1164 x1165 x1166 x1174 x1169
                        | none => none
                      else
                        none
                  | none => none
                else
                  none)
        else
          k0 v1127 v1128 v1129 v1130 v1131 v1132 v1133
      | none => none
    else
      none
theorem impl_natDiv_J40.ex : ∃ f : ((α : Type) → Nat → Int → List Int → Int → Int → Int → List Int → List Int → (Int → List Int → Int → Int → Int → List Int → List Int → Option α) → Option α), f = fun α => @impl_natDiv_J40.b α := ⟨_, rfl⟩
noncomputable def impl_natDiv_J40 {α : Type} : Nat → Int → List Int → Int → Int → Int → List Int → List Int → (Int → List Int → Int → Int → Int → List Int → List Int → Option α) → Option α := Classical.choose impl_natDiv_J40.ex α
theorem impl_natDiv_J40.eq : @impl_natDiv_J40 = @impl_natDiv_J40.b := funext fun α => congrFun (Classical.choose_spec impl_natDiv_J40.ex) α
noncomputable def impl_natDiv_L4r {α : Type} (N : Nat) (next : Int → List Int → Int → Int → List Int → List Int → Option α) (k0 : Int → List Int → List Int → Option α) (v1003 : Int) (v1004 : List Int) (v1005 : Int) (v1006 : Int) (v1007 : List Int) (v1008 : List Int) : Option α :=
  let x1009 := (decide ((0 : Int) ≤ v1006))
  bif x1009 then
    let x1010 := IntKind.i64.wrap (v1006 + v1005)
    bif (decide (x1010 < (0 : Int))) then
      none
    else
      bif decide (x1010.toNat < v1007.length) then
        match v1007[x1010.toNat]? with
        | some x1011 =>
          let x1012 := (shlI .i64 x1011 (16 : Int))
          let x1013 := IntKind.i64.wrap (v1006 + v1005)
          let x1014 := (IntKind.i64.wrap (x1013 - (1 : Int)))
          bif (decide (x1014 < (0 : Int))) then
            none
          else
            bif decide (x1014.toNat < v1007.length) then
              match v1007[x1014.toNat]? with
              | some x1015 =>
                let x1016 := bitI .or .i64 x1012 x1015
                let x1017 := (IntKind.i64.wrap (v1005 - (1 : Int)))
                bif (decide (x1017 < (0 : Int))) then
                  none
                else
                  match v1004[x1017.toNat]? with
                  | some x1018 =>
                    bif (decide (x1018 = (0 : Int))) then
                      none
                    else
                      let x1019 := IntKind.i64.wrap (Int.tdiv x1016 x1018)
                      let x1020 := (IntKind.i64.wrap (v1005 - (1 : Int)))
                      bif (decide (x1020 < (0 : Int))) then
                        none
                      else
                        match v1004[x1020.toNat]? with
                        | some x1021 =>
                          bif (decide (x1021 = (0 : Int))) then
                            none
                          else
                            let x1022 := Int.tmod x1016 x1021
                            impl_natDiv_L6 N N v1003 v1004 v1005 v1006 x1019 x1022 v1007 v1008
                              (fun x1051 x1052 x1053 x1054 x1055 x1056 x1057 =>
                                let x1058 := ((x1052.length : Nat) : Int)
                                impl_natDiv_L8 N N x1051 x1052 x1053 x1054 x1055 (0 : Int) x1052 x1058 (0 : Int) x1056 x1057
                                  (fun x1114 x1115 x1116 x1117 x1118 x1119 x1120 x1121 =>
                                    let x1122 := IntKind.i64.wrap (x1117 + x1116)
                                    bif (decide (x1122 < (0 : Int))) then
                                      none
                                    else
                                      bif decide (x1122.toNat < x1120.length) then
                                        match x1120[x1122.toNat]? with
                                        | some x1123 =>
                                          let x1124 := IntKind.i64.wrap (x1123 - x1119)
                                          bif (decide (x1122 < (0 : Int))) then
                                            none
                                          else
                                            bif decide (x1122.toNat < x1120.length) then
                                              match x1120[x1122.toNat]? with
                                              | some x1125 =>
                                                let x1126 := x1120.set x1122.toNat x1124
                                                impl_natDiv_J40 N x1114 x1115 x1116 x1117 x1118 x1126 x1121
                                                  (fun x1175 x1176 x1177 x1178 x1179 x1180 x1181 =>
                                                    bif (decide (x1178 < (0 : Int))) then
                                                      none
                                                    else
                                                      bif decide (x1178.toNat < x1181.length) then
                                                        match x1181[x1178.toNat]? with
                                                        | some x1182 =>
                                                          let x1183 := x1181.set x1178.toNat x1179
                                                          let x1184 := (IntKind.i64.wrap (x1178 - (1 : Int)))
                                                          next x1175 x1176 x1177 x1184 x1180 x1183
                                                        | none => none
                                                      else
                                                        none)
                                              | none => none
                                            else
                                              none
                                        | none => none
                                      else
                                        none))
                        | none => none
                  | none => none
              | none => none
            else
              none
        | none => none
      else
        none
  else
    k0 v1003 v1007 v1008
noncomputable def impl_natDiv_L4.b {α : Type} (N n : Nat) (v1003 : Int) (v1004 : List Int) (v1005 : Int) (v1006 : Int) (v1007 : List Int) (v1008 : List Int) (k0 : Int → List Int → List Int → Option α) : Option α :=
  Nat.rec (motive := fun _ => Int → List Int → Int → Int → List Int → List Int → Option α) (fun _ _ _ _ _ _ => none) (fun _ next => impl_natDiv_L4r N next k0) n v1003 v1004 v1005 v1006 v1007 v1008
theorem impl_natDiv_L4.ex : ∃ f : ((α : Type) → Nat → Nat → Int → List Int → Int → Int → List Int → List Int → (Int → List Int → List Int → Option α) → Option α), f = fun α => @impl_natDiv_L4.b α := ⟨_, rfl⟩
noncomputable def impl_natDiv_L4 {α : Type} : Nat → Nat → Int → List Int → Int → Int → List Int → List Int → (Int → List Int → List Int → Option α) → Option α := Classical.choose impl_natDiv_L4.ex α
theorem impl_natDiv_L4.eq : @impl_natDiv_L4 = @impl_natDiv_L4.b := funext fun α => congrFun (Classical.choose_spec impl_natDiv_L4.ex) α
theorem impl_natDiv_L4.zero {α : Type} (N : Nat) (v1003 : Int) (v1004 : List Int) (v1005 : Int) (v1006 : Int) (v1007 : List Int) (v1008 : List Int) (k0 : Int → List Int → List Int → Option α) : impl_natDiv_L4 N 0 v1003 v1004 v1005 v1006 v1007 v1008 k0 = none := by rw [impl_natDiv_L4.eq]; rfl
theorem impl_natDiv_L4.succ {α : Type} (N n : Nat) (v1003 : Int) (v1004 : List Int) (v1005 : Int) (v1006 : Int) (v1007 : List Int) (v1008 : List Int) (k0 : Int → List Int → List Int → Option α) : impl_natDiv_L4 N (n + 1) v1003 v1004 v1005 v1006 v1007 v1008 k0 = impl_natDiv_L4r N (fun y0 y1 y2 y3 y4 y5 => impl_natDiv_L4 N n y0 y1 y2 y3 y4 y5 k0) k0 v1003 v1004 v1005 v1006 v1007 v1008 := by rw [impl_natDiv_L4.eq]; rfl
/-- loop.example/pinfold/impl.natDiv -/
noncomputable def impl_natDiv.b {α : Type} (N : Nat) (a736 : List Int) (a737 : List Int) (k0 : List Int → List Int → Option α) : Option α :=
  impl_natCmp N a736 a737
    (fun x764 =>
      let x765 := (decide (x764 < (0 : Int)))
      bif x765 then
        k0 [] a736
      else
        let x766 := ((a737.length : Nat) : Int)
        let x767 := (decide (x766 = (1 : Int)))
        bif x767 then
          let x768 := ((a736.length : Nat) : Int)
          bif (decide ((0 : Int) ≤ x768)) then
            bif decide (x768 ≤ x768) then
              bif (decide (x768 ≤ ((8796093022208 : Nat) : Int))) then
                let x769 := (List.replicate x768.toNat (0 : Int))
                let x770 := ((a736.length : Nat) : Int)
                let x771 := (IntKind.i64.wrap (x770 - (1 : Int)))
                impl_natDiv_L0 N N a736 a737 (0 : Int) x771 x769
                  (fun x788 x789 =>
                    impl_trim N x789
                      (fun x802 =>
                        let x803 := [x788]
                        impl_trim N x803
                          (fun x804 =>
                            k0 x802 x804)))
              else
                none
            else
              none
          else
            none
        else
          let x805 := ((a737.length : Nat) : Int)
          let x806 := (IntKind.i64.wrap (x805 - (1 : Int)))
          bif (decide (x806 < (0 : Int))) then
            none
          else
            match a737[x806.toNat]? with
            | some x807 =>
              let x808 := IntKind.u64.wrap x807
              math_bits_Len N x808
                (fun x837 =>
                  let x838 := (IntKind.i64.wrap ((16 : Int) - x837))
                  impl_natShift N a737 x838
                    (fun x976 =>
                      impl_natShift N a736 x838
                        (fun x977 =>
                          slices_Clone_int_int N x977
                            (fun x978 =>
                              let x979 := [(0 : Int)]
                              bif decide (x978.length + x979.length ≤ 8796093022208) then
                                let x980 := x978 ++ x979
                                let x981 := ((x976.length : Nat) : Int)
                                impl_natDiv_L2 N N a736 x838 x976 x981 x980
                                  (fun x993 x994 x995 x996 =>
                                    let x997 := ((x996.length : Nat) : Int)
                                    let x998 := IntKind.i64.wrap (x997 - x995)
                                    bif (decide ((0 : Int) ≤ x998)) then
                                      bif decide (x998 ≤ x998) then
                                        bif (decide (x998 ≤ ((8796093022208 : Nat) : Int))) then
                                          let x999 := (List.replicate x998.toNat (0 : Int))
                                          let x1000 := ((x996.length : Nat) : Int)
                                          let x1001 := IntKind.i64.wrap (x1000 - x995)
                                          let x1002 := (IntKind.i64.wrap (x1001 - (1 : Int)))
                                          impl_natDiv_L4 N N x993 x994 x995 x1002 x996 x999
                                            (fun x1185 x1186 x1187 =>
                                              impl_trim N x1187
                                                (fun x1188 =>
                                                  impl_trim N x1186
                                                    (fun x1189 =>
                                                      let x1190 := IntKind.i64.wrap (0 - x1185)
                                                      impl_natShift N x1189 x1190
                                                        (fun x1191 =>
                                                          k0 x1188 x1191))))
                                        else
                                          none
                                      else
                                        none
                                    else
                                      none)
                              else
                                none))))
            | none => none)
theorem impl_natDiv.ex : ∃ f : ((α : Type) → Nat → List Int → List Int → (List Int → List Int → Option α) → Option α), f = fun α => @impl_natDiv.b α := ⟨_, rfl⟩
noncomputable def impl_natDiv {α : Type} : Nat → List Int → List Int → (List Int → List Int → Option α) → Option α := Classical.choose impl_natDiv.ex α
theorem impl_natDiv.eq : @impl_natDiv = @impl_natDiv.b := funext fun α => congrFun (Classical.choose_spec impl_natDiv.ex) α

noncomputable def impl_natGcd_L0r {α : Type} (N : Nat) (next : List Int → List Int → Option α) (k0 : List Int → Option α) (v663 : List Int) (v664 : List Int) : Option α :=
  let x665 := ((v664.length : Nat) : Int)
  let x666 := (decide ((0 : Int) < x665))
  bif x666 then
    impl_natDiv N v663 v664
      (fun _ x1193 =>
        next v664 x1193)
  else
    k0 v663
noncomputable def impl_natGcd_L0.b {α : Type} (N n : Nat) (v663 : List Int) (v664 : List Int) (k0 : List Int → Option α) : Option α :=
  Nat.rec (motive := fun _ => List Int → List Int → Option α) (fun _ _ => none) (fun _ next => impl_natGcd_L0r N next k0) n v663 v664
theorem impl_natGcd_L0.ex : ∃ f : ((α : Type) → Nat → Nat → List Int → List Int → (List Int → Option α) → Option α), f = fun α => @impl_natGcd_L0.b α := ⟨_, rfl⟩
noncomputable def impl_natGcd_L0 {α : Type} : Nat → Nat → List Int → List Int → (List Int → Option α) → Option α := Classical.choose impl_natGcd_L0.ex α
theorem impl_natGcd_L0.eq : @impl_natGcd_L0 = @impl_natGcd_L0.b := funext fun α => congrFun (Classical.choose_spec impl_natGcd_L0.ex) α
theorem impl_natGcd_L0.zero {α : Type} (N : Nat) (v663 : List Int) (v664 : List Int) (k0 : List Int → Option α) : impl_natGcd_L0 N 0 v663 v664 k0 = none := by rw [impl_natGcd_L0.eq]; rfl
theorem impl_natGcd_L0.succ {α : Type} (N n : Nat) (v663 : List Int) (v664 : List Int) (k0 : List Int → Option α) : impl_natGcd_L0 N (n + 1) v663 v664 k0 = impl_natGcd_L0r N (fun y0 y1 => impl_natGcd_L0 N n y0 y1 k0) k0 v663 v664 := by rw [impl_natGcd_L0.eq]; rfl
/-- loop.example/pinfold/impl.natGcd -/
noncomputable def impl_natGcd.b {α : Type} (N : Nat) (a661 : List Int) (a662 : List Int) (k0 : List Int → Option α) : Option α :=
  impl_natGcd_L0 N N a661 a662
    (fun x1194 =>
      k0 x1194)
theorem impl_natGcd.ex : ∃ f : ((α : Type) → Nat → List Int → List Int → (List Int → Option α) → Option α), f = fun α => @impl_natGcd.b α := ⟨_, rfl⟩
noncomputable def impl_natGcd {α : Type} : Nat → List Int → List Int → (List Int → Option α) → Option α := Classical.choose impl_natGcd.ex α
theorem impl_natGcd.eq : @impl_natGcd = @impl_natGcd.b := funext fun α => congrFun (Classical.choose_spec impl_natGcd.ex) α

/-- loop.example/pinfold/impl.FracOk -/
noncomputable def impl_FracOk.b {α : Type} (N : Nat) (a601 : Bool × (List Int) × (List Int) × Unit) (k0 : Bool → Option α) : Option α :=
  let x602 := [a601.2.1, a601.2.2.1]
  impl_nats N x602
    (fun x656 =>
      bif x656 then
        let x657 := ((a601.2.2.1.length : Nat) : Int)
        let x658 := (decide ((0 : Int) < x657))
        bif x658 then
          let x659 := ((a601.2.1.length : Nat) : Int)
          let x660 := (decide ((0 : Int) < x659))
          bif x660 then
            impl_natGcd N a601.2.1 a601.2.2.1
              (fun x1195 =>
                let x1196 := [(1 : Int)]
                impl_natCmp N x1195 x1196
                  (fun x1197 =>
                    let x1198 := (decide (x1197 = (0 : Int)))
                    k0 x1198))
          else
            let x1199 := !a601.1
            bif x1199 then
              impl_natGcd N a601.2.1 a601.2.2.1
                (fun x1200 =>
                  let x1201 := [(1 : Int)]
                  impl_natCmp N x1200 x1201
                    (fun x1202 =>
                      let x1203 := (decide (x1202 = (0 : Int)))
                      k0 x1203))
            else
              k0 false
        else
          k0 false
      else
        k0 false)
theorem impl_FracOk.ex : ∃ f : ((α : Type) → Nat → (Bool × (List Int) × (List Int) × Unit) → (Bool → Option α) → Option α), f = fun α => @impl_FracOk.b α := ⟨_, rfl⟩
noncomputable def impl_FracOk {α : Type} : Nat → (Bool × (List Int) × (List Int) × Unit) → (Bool → Option α) → Option α := Classical.choose impl_FracOk.ex α
theorem impl_FracOk.eq : @impl_FracOk = @impl_FracOk.b := funext fun α => congrFun (Classical.choose_spec impl_FracOk.ex) α

/-- loop.example/pinfold/impl.floated -/
noncomputable def impl_floated.b {α : Type} (N : Nat) (a594 : Int) (a595 : Bool × (List Int) × (List Int) × Unit) (k0 : Bool → Option α) : Option α :=
  impl_formatOf N a594
    (fun _ x600 =>
      bif x600 then
        impl_FracOk N a595
          (fun x1204 =>
            k0 x1204)
      else
        k0 false)
theorem impl_floated.ex : ∃ f : ((α : Type) → Nat → Int → (Bool × (List Int) × (List Int) × Unit) → (Bool → Option α) → Option α), f = fun α => @impl_floated.b α := ⟨_, rfl⟩
noncomputable def impl_floated {α : Type} : Nat → Int → (Bool × (List Int) × (List Int) × Unit) → (Bool → Option α) → Option α := Classical.choose impl_floated.ex α
theorem impl_floated.eq : @impl_floated = @impl_floated.b := funext fun α => congrFun (Classical.choose_spec impl_floated.ex) α

/-- loop.example/pinfold/impl.natBits -/
noncomputable def impl_natBits.b {α : Type} (N : Nat) (a1216 : List Int) (k0 : Int → Option α) : Option α :=
  let x1217 := ((a1216.length : Nat) : Int)
  let x1218 := (decide (x1217 = (0 : Int)))
  bif x1218 then
    k0 (0 : Int)
  else
    let x1219 := ((a1216.length : Nat) : Int)
    let x1220 := (IntKind.i64.wrap (x1219 - (1 : Int)))
    let x1221 := (IntKind.i64.wrap ((16 : Int) * x1220))
    let x1222 := ((a1216.length : Nat) : Int)
    let x1223 := (IntKind.i64.wrap (x1222 - (1 : Int)))
    bif (decide (x1223 < (0 : Int))) then
      none
    else
      match a1216[x1223.toNat]? with
      | some x1224 =>
        let x1225 := IntKind.u64.wrap x1224
        math_bits_Len N x1225
          (fun x1226 =>
            let x1227 := IntKind.i64.wrap (x1221 + x1226)
            k0 x1227)
      | none => none
theorem impl_natBits.ex : ∃ f : ((α : Type) → Nat → List Int → (Int → Option α) → Option α), f = fun α => @impl_natBits.b α := ⟨_, rfl⟩
noncomputable def impl_natBits {α : Type} : Nat → List Int → (Int → Option α) → Option α := Classical.choose impl_natBits.ex α
theorem impl_natBits.eq : @impl_natBits = @impl_natBits.b := funext fun α => congrFun (Classical.choose_spec impl_natBits.ex) α

-- prim math_bits_TrailingZeros64
noncomputable def impl_BitMake_J14.b {α : Type} (N : Nat) (v1313 : Int) (v1314 : Int) (v1315 : Int) (v1316 : Int) (v1317 : Bool × Int × Int × Unit) (v1318 : Int × Int × Int × Int × Unit) (k0 : Int → (Bool × Int × Int × Unit) → Option α) : Option α :=
  let x1319 := (decide ((1 : Int) ≤ v1316))
  bif x1319 then
    bif (decide (v1318.1 < (0 : Int))) then
      none
    else
      let x1320 := shlI .i64 v1316 v1318.1
      let x1321 := (IntKind.i64.wrap (v1318.1 + (1 : Int)))
      let x1322 := IntKind.i64.wrap (x1321 - v1315)
      bif (decide (x1322 < (0 : Int))) then
        none
      else
        let x1323 := shlI .u64 v1313 x1322
        let x1324 := IntKind.i64.wrap x1323
        bif (decide (v1318.1 < (0 : Int))) then
          none
        else
          let x1325 := (shlI .i64 (1 : Int) v1318.1)
          let x1326 := (IntKind.i64.wrap (x1325 - (1 : Int)))
          let x1327 := bitI .and .i64 x1324 x1326
          let x1328 := bitI .or .i64 x1320 x1327
          k0 x1328 v1317
  else
    let x1329 := IntKind.i64.wrap (v1314 - v1318.2.1)
    bif (decide (x1329 < (0 : Int))) then
      none
    else
      let x1330 := shlI .u64 v1313 x1329
      let x1331 := IntKind.i64.wrap x1330
      k0 x1331 v1317
theorem impl_BitMake_J14.ex : ∃ f : ((α : Type) → Nat → Int → Int → Int → Int → (Bool × Int × Int × Unit) → (Int × Int × Int × Int × Unit) → (Int → (Bool × Int × Int × Unit) → Option α) → Option α), f = fun α => @impl_BitMake_J14.b α := ⟨_, rfl⟩
noncomputable def impl_BitMake_J14 {α : Type} : Nat → Int → Int → Int → Int → (Bool × Int × Int × Unit) → (Int × Int × Int × Int × Unit) → (Int → (Bool × Int × Int × Unit) → Option α) → Option α := Classical.choose impl_BitMake_J14.ex α
theorem impl_BitMake_J14.eq : @impl_BitMake_J14 = @impl_BitMake_J14.b := funext fun α => congrFun (Classical.choose_spec impl_BitMake_J14.ex) α
noncomputable def impl_BitMake_J17.b {α : Type} (N : Nat) (v1334 : Int) (v1335 : Bool × Int × Int × Unit) (k0 : Int → Option α) : Option α :=
  bif v1335.1 then
    let x1336 := IntKind.i64.wrap (0 - v1334)
    k0 x1336
  else
    k0 v1334
theorem impl_BitMake_J17.ex : ∃ f : ((α : Type) → Nat → Int → (Bool × Int × Int × Unit) → (Int → Option α) → Option α), f = fun α => @impl_BitMake_J17.b α := ⟨_, rfl⟩
noncomputable def impl_BitMake_J17 {α : Type} : Nat → Int → (Bool × Int × Int × Unit) → (Int → Option α) → Option α := Classical.choose impl_BitMake_J17.ex α
theorem impl_BitMake_J17.eq : @impl_BitMake_J17 = @impl_BitMake_J17.b := funext fun α => congrFun (Classical.choose_spec impl_BitMake_J17.ex) α
/-- loop.example/pinfold/impl.BitMake -/
noncomputable def impl_BitMake.b {α : Type} (N : Nat) (a1294 : Int) (a1295 : Bool × Int × Int × Unit) (k0 : Int → Bool → Option α) : Option α :=
  impl_formatOf N a1294
    (fun x1296 x1297 =>
      let x1298 := !x1297
      bif x1298 then
        k0 (0 : Int) false
      else
        impl_in N a1295.2.2.1 (-2000 : Int) (2000 : Int)
          (fun x1299 =>
            let x1300 := !x1299
            bif x1300 then
              k0 (0 : Int) false
            else
              let x1301 := (decide (a1295.2.1 = (0 : Int)))
              bif x1301 then
                k0 (0 : Int) true
              else
                math_bits_TrailingZeros64 N a1295.2.1
                  (fun x1302 =>
                    bif (decide (x1302 < (0 : Int))) then
                      none
                    else
                      let x1303 := shrI .u64 a1295.2.1 x1302
                      let x1304 := IntKind.i64.wrap (a1295.2.2.1 + x1302)
                      math_bits_Len64 N x1303
                        (fun x1305 =>
                          let x1306 := IntKind.i64.wrap (x1304 + x1305)
                          let x1307 := (IntKind.i64.wrap (x1306 - (1 : Int)))
                          let x1308 := (IntKind.i64.wrap (x1296.1 + (1 : Int)))
                          let x1309 := decide (x1308 < x1305)
                          bif x1309 then
                            k0 (0 : Int) false
                          else
                            let x1310 := decide (x1304 < x1296.2.1)
                            bif x1310 then
                              k0 (0 : Int) false
                            else
                              let x1311 := decide (x1296.2.2.1 < x1307)
                              bif x1311 then
                                k0 (0 : Int) false
                              else
                                let x1312 := IntKind.i64.wrap (x1307 + x1296.2.2.1)
                                impl_BitMake_J14 N x1303 x1304 x1305 x1312 a1295 x1296
                                  (fun x1332 x1333 =>
                                    impl_BitMake_J17 N x1332 x1333
                                      (fun x1337 =>
                                        k0 x1337 true))))))
theorem impl_BitMake.ex : ∃ f : ((α : Type) → Nat → Int → (Bool × Int × Int × Unit) → (Int → Bool → Option α) → Option α), f = fun α => @impl_BitMake.b α := ⟨_, rfl⟩
noncomputable def impl_BitMake {α : Type} : Nat → Int → (Bool × Int × Int × Unit) → (Int → Bool → Option α) → Option α := Classical.choose impl_BitMake.ex α
theorem impl_BitMake.eq : @impl_BitMake = @impl_BitMake.b := funext fun α => congrFun (Classical.choose_spec impl_BitMake.ex) α

noncomputable def impl_truncated_J7.b {α : Type} (N : Nat) (v1233 : Int) (v1234 : Int) (v1235 : Int) (v1236 : List Int) (v1237 : List Int) (v1238 : Int × Int × Int × Int × Unit) (k0 : Int → Int → Int → List Int → List Int → (Int × Int × Int × Int × Unit) → Option α) : Option α :=
  let x1239 := (decide (v1235 < (0 : Int)))
  bif x1239 then
    let x1240 := IntKind.i64.wrap (0 - v1235)
    impl_natShift N v1236 x1240
      (fun x1241 =>
        k0 v1233 v1234 v1235 x1241 v1237 v1238)
  else
    impl_natShift N v1237 v1235
      (fun x1242 =>
        k0 v1233 v1234 v1235 v1236 x1242 v1238)
theorem impl_truncated_J7.ex : ∃ f : ((α : Type) → Nat → Int → Int → Int → List Int → List Int → (Int × Int × Int × Int × Unit) → (Int → Int → Int → List Int → List Int → (Int × Int × Int × Int × Unit) → Option α) → Option α), f = fun α => @impl_truncated_J7.b α := ⟨_, rfl⟩
noncomputable def impl_truncated_J7 {α : Type} : Nat → Int → Int → Int → List Int → List Int → (Int × Int × Int × Int × Unit) → (Int → Int → Int → List Int → List Int → (Int × Int × Int × Int × Unit) → Option α) → Option α := Classical.choose impl_truncated_J7.ex α
theorem impl_truncated_J7.eq : @impl_truncated_J7 = @impl_truncated_J7.b := funext fun α => congrFun (Classical.choose_spec impl_truncated_J7.ex) α
noncomputable def impl_truncated_J12.b {α : Type} (N : Nat) (v1253 : Int) (v1254 : Int) (v1255 : Int) (v1256 : List Int) (v1257 : Bool) (v1258 : Int × Int × Int × Int × Unit) (k0 : Int → Int → List Int → Bool → (Int × Int × Int × Int × Unit) → Option α) : Option α :=
  impl_natBits N v1256
    (fun x1259 =>
      let x1260 := decide (v1254 < x1259)
      bif x1260 then
        bif v1257 then
          match v1256[0]? with
          | some x1261 =>
            let x1262 := (bitI .and .i64 x1261 (1 : Int))
            let x1263 := (decide (x1262 = (0 : Int)))
            impl_natShift N v1256 (-1 : Int)
              (fun x1264 =>
                let x1265 := (IntKind.i64.wrap (v1255 + (1 : Int)))
                k0 v1253 x1265 x1264 x1263 v1258)
          | none => none
        else
          impl_natShift N v1256 (-1 : Int)
            (fun x1266 =>
              let x1267 := (IntKind.i64.wrap (v1255 + (1 : Int)))
              k0 v1253 x1267 x1266 false v1258)
      else
        k0 v1253 v1255 v1256 v1257 v1258)
theorem impl_truncated_J12.ex : ∃ f : ((α : Type) → Nat → Int → Int → Int → List Int → Bool → (Int × Int × Int × Int × Unit) → (Int → Int → List Int → Bool → (Int × Int × Int × Int × Unit) → Option α) → Option α), f = fun α => @impl_truncated_J12.b α := ⟨_, rfl⟩
noncomputable def impl_truncated_J12 {α : Type} : Nat → Int → Int → Int → List Int → Bool → (Int × Int × Int × Int × Unit) → (Int → Int → List Int → Bool → (Int × Int × Int × Int × Unit) → Option α) → Option α := Classical.choose impl_truncated_J12.ex α
theorem impl_truncated_J12.eq : @impl_truncated_J12 = @impl_truncated_J12.b := funext fun α => congrFun (Classical.choose_spec impl_truncated_J12.ex) α
noncomputable def impl_truncated_L0r {α : Type} (N : Nat) (next : Int → Int → Bool → Int → List Int → Int → Int → (Int × Int × Int × Int × Unit) → Option α) (k0 : Int → Int → Bool → Int → (Int × Int × Int × Int × Unit) → Option α) (v1274 : Int) (v1275 : Int) (v1276 : Bool) (v1277 : Int) (v1278 : List Int) (v1279 : Int) (v1280 : Int) (v1281 : Int × Int × Int × Int × Unit) : Option α :=
  let x1282 := decide (v1280 < v1279)
  bif x1282 then
    bif (decide (v1280 < (0 : Int))) then
      none
    else
      match v1278[v1280.toNat]? with
      | some x1283 =>
        let x1284 := IntKind.u64.wrap x1283
        let x1285 := (IntKind.i64.wrap ((16 : Int) * v1280))
        bif (decide (x1285 < (0 : Int))) then
          none
        else
          let x1286 := shlI .u64 x1284 x1285
          let x1287 := bitI .or .u64 v1277 x1286
          let x1288 := (IntKind.i64.wrap (v1280 + (1 : Int)))
          next v1274 v1275 v1276 x1287 v1278 v1279 x1288 v1281
      | none => none
  else
    k0 v1274 v1275 v1276 v1277 v1281
noncomputable def impl_truncated_L0.b {α : Type} (N n : Nat) (v1274 : Int) (v1275 : Int) (v1276 : Bool) (v1277 : Int) (v1278 : List Int) (v1279 : Int) (v1280 : Int) (v1281 : Int × Int × Int × Int × Unit) (k0 : Int → Int → Bool → Int → (Int × Int × Int × Int × Unit) → Option α) : Option α :=
  Nat.rec (motive := fun _ => Int → Int → Bool → Int → List Int → Int → Int → (Int × Int × Int × Int × Unit) → Option α) (fun _ _ _ _ _ _ _ _ => none) (fun _ next => impl_truncated_L0r N next k0) n v1274 v1275 v1276 v1277 v1278 v1279 v1280 v1281
theorem impl_truncated_L0.ex : ∃ f : ((α : Type) → Nat → Nat → Int → Int → Bool → Int → List Int → Int → Int → (Int × Int × Int × Int × Unit) → (Int → Int → Bool → Int → (Int × Int × Int × Int × Unit) → Option α) → Option α), f = fun α => @impl_truncated_L0.b α := ⟨_, rfl⟩
noncomputable def impl_truncated_L0 {α : Type} : Nat → Nat → Int → Int → Bool → Int → List Int → Int → Int → (Int × Int × Int × Int × Unit) → (Int → Int → Bool → Int → (Int × Int × Int × Int × Unit) → Option α) → Option α := Classical.choose impl_truncated_L0.ex α
theorem impl_truncated_L0.eq : @impl_truncated_L0 = @impl_truncated_L0.b := funext fun α => congrFun (Classical.choose_spec impl_truncated_L0.ex) α
theorem impl_truncated_L0.zero {α : Type} (N : Nat) (v1274 : Int) (v1275 : Int) (v1276 : Bool) (v1277 : Int) (v1278 : List Int) (v1279 : Int) (v1280 : Int) (v1281 : Int × Int × Int × Int × Unit) (k0 : Int → Int → Bool → Int → (Int × Int × Int × Int × Unit) → Option α) : impl_truncated_L0 N 0 v1274 v1275 v1276 v1277 v1278 v1279 v1280 v1281 k0 = none := by rw [impl_truncated_L0.eq]; rfl
theorem impl_truncated_L0.succ {α : Type} (N n : Nat) (v1274 : Int) (v1275 : Int) (v1276 : Bool) (v1277 : Int) (v1278 : List Int) (v1279 : Int) (v1280 : Int) (v1281 : Int × Int × Int × Int × Unit) (k0 : Int → Int → Bool → Int → (Int × Int × Int × Int × Unit) → Option α) : impl_truncated_L0 N (n + 1) v1274 v1275 v1276 v1277 v1278 v1279 v1280 v1281 k0 = impl_truncated_L0r N (fun y0 y1 y2 y3 y4 y5 y6 y7 => impl_truncated_L0 N n y0 y1 y2 y3 y4 y5 y6 y7 k0) k0 v1274 v1275 v1276 v1277 v1278 v1279 v1280 v1281 := by rw [impl_truncated_L0.eq]; rfl
/-- loop.example/pinfold/impl.truncated -/
noncomputable def impl_truncated.b {α : Type} (N : Nat) (a1209 : Int) (a1210 : Bool × (List Int) × (List Int) × Unit) (k0 : Int → Bool → Option α) : Option α :=
  impl_formatOf N a1209
    (fun x1211 _ =>
      let x1213 := ((a1210.2.1.length : Nat) : Int)
      let x1214 := (decide (x1213 = (0 : Int)))
      bif x1214 then
        k0 (0 : Int) true
      else
        let x1215 := (IntKind.i64.wrap (x1211.1 + (1 : Int)))
        impl_natBits N a1210.2.1
          (fun x1228 =>
            impl_natBits N a1210.2.2.1
              (fun x1229 =>
                let x1230 := IntKind.i64.wrap (x1228 - x1229)
                let x1231 := IntKind.i64.wrap (x1230 - x1215)
                let x1232 := maxI x1211.2.1 x1231
                impl_truncated_J7 N a1209 x1215 x1232 a1210.2.1 a1210.2.2.1 x1211
                  (fun x1243 x1244 x1245 x1246 x1247 x1248 =>
                    impl_natDiv N x1246 x1247
                      (fun x1249 x1250 =>
                        let x1251 := ((x1250.length : Nat) : Int)
                        let x1252 := (decide (x1251 = (0 : Int)))
                        impl_truncated_J12 N x1243 x1244 x1245 x1249 x1252 x1248
                          (fun x1268 x1269 x1270 x1271 x1272 =>
                            let x1273 := ((x1270.length : Nat) : Int)
                            impl_truncated_L0 N N x1268 x1269 x1271 (0 : Int) x1270 x1273 (0 : Int) x1272
                              (fun x1289 x1290 x1291 x1292 x1293 =>
                                impl_BitMake N x1289 (false, (x1292, (x1290, ())))
                                  (fun x1338 x1339 =>
                                    let x1340 := !x1339
                                    bif x1340 then
                                      let x1341 := (IntKind.i64.wrap (x1293.2.2.2.1 - (1 : Int)))
                                      k0 x1341 false
                                    else
                                      k0 x1338 x1291))))))))
theorem impl_truncated.ex : ∃ f : ((α : Type) → Nat → Int → (Bool × (List Int) × (List Int) × Unit) → (Int → Bool → Option α) → Option α), f = fun α => @impl_truncated.b α := ⟨_, rfl⟩
noncomputable def impl_truncated {α : Type} : Nat → Int → (Bool × (List Int) × (List Int) × Unit) → (Int → Bool → Option α) → Option α := Classical.choose impl_truncated.ex α
theorem impl_truncated.eq : @impl_truncated = @impl_truncated.b := funext fun α => congrFun (Classical.choose_spec impl_truncated.ex) α

noncomputable def impl_around_J3.b {α : Type} (N : Nat) (v1344 : Int) (v1345 : Bool) (v1346 : Int) (v1347 : Bool × (List Int) × (List Int) × Unit) (k0 : Int → Int → (Bool × (List Int) × (List Int) × Unit) → Option α) : Option α :=
  let x1348 := !v1345
  bif x1348 then
    let x1349 := (IntKind.i64.wrap (v1346 + (1 : Int)))
    k0 v1344 x1349 v1347
  else
    k0 v1344 v1346 v1347
theorem impl_around_J3.ex : ∃ f : ((α : Type) → Nat → Int → Bool → Int → (Bool × (List Int) × (List Int) × Unit) → (Int → Int → (Bool × (List Int) × (List Int) × Unit) → Option α) → Option α), f = fun α => @impl_around_J3.b α := ⟨_, rfl⟩
noncomputable def impl_around_J3 {α : Type} : Nat → Int → Bool → Int → (Bool × (List Int) × (List Int) × Unit) → (Int → Int → (Bool × (List Int) × (List Int) × Unit) → Option α) → Option α := Classical.choose impl_around_J3.ex α
theorem impl_around_J3.eq : @impl_around_J3 = @impl_around_J3.b := funext fun α => congrFun (Classical.choose_spec impl_around_J3.ex) α
/-- loop.example/pinfold/impl.around -/
noncomputable def impl_around.b {α : Type} (N : Nat) (a1207 : Int) (a1208 : Bool × (List Int) × (List Int) × Unit) (k0 : Int → Int → Option α) : Option α :=
  impl_truncated N a1207 a1208
    (fun x1342 x1343 =>
      impl_around_J3 N x1342 x1343 x1342 a1208
        (fun x1350 x1351 x1352 =>
          bif x1352.1 then
            let x1353 := IntKind.i64.wrap (0 - x1351)
            let x1354 := IntKind.i64.wrap (0 - x1350)
            k0 x1353 x1354
          else
            k0 x1350 x1351))
theorem impl_around.ex : ∃ f : ((α : Type) → Nat → Int → (Bool × (List Int) × (List Int) × Unit) → (Int → Int → Option α) → Option α), f = fun α => @impl_around.b α := ⟨_, rfl⟩
noncomputable def impl_around {α : Type} : Nat → Int → (Bool × (List Int) × (List Int) × Unit) → (Int → Int → Option α) → Option α := Classical.choose impl_around.ex α
theorem impl_around.eq : @impl_around = @impl_around.b := funext fun α => congrFun (Classical.choose_spec impl_around.ex) α

/-- loop.example/pinfold/impl.FloatUp -/
noncomputable def impl_FloatUp.b {α : Type} (N : Nat) (a592 : Int) (a593 : Bool × (List Int) × (List Int) × Unit) (k0 : Int → Bool → Option α) : Option α :=
  impl_floated N a592 a593
    (fun x1205 =>
      let x1206 := !x1205
      bif x1206 then
        k0 (0 : Int) false
      else
        impl_around N a592 a593
          (fun _ x1356 =>
            k0 x1356 true))
theorem impl_FloatUp.ex : ∃ f : ((α : Type) → Nat → Int → (Bool × (List Int) × (List Int) × Unit) → (Int → Bool → Option α) → Option α), f = fun α => @impl_FloatUp.b α := ⟨_, rfl⟩
noncomputable def impl_FloatUp {α : Type} : Nat → Int → (Bool × (List Int) × (List Int) × Unit) → (Int → Bool → Option α) → Option α := Classical.choose impl_FloatUp.ex α
theorem impl_FloatUp.eq : @impl_FloatUp = @impl_FloatUp.b := funext fun α => congrFun (Classical.choose_spec impl_FloatUp.ex) α

noncomputable def laws_eqIntS_L0r {α : Type} (N : Nat) (next : List Int → List Int → Int → Option α) (k0 : Bool → Option α) (k1 : Option α) (v1372 : List Int) (v1373 : List Int) (v1374 : Int) : Option α :=
  let x1375 := ((v1372.length : Nat) : Int)
  let x1376 := decide (v1374 < x1375)
  bif x1376 then
    bif (decide (v1374 < (0 : Int))) then
      none
    else
      match v1372[v1374.toNat]? with
      | some x1377 =>
        bif (decide (v1374 < (0 : Int))) then
          none
        else
          match v1373[v1374.toNat]? with
          | some x1378 =>
            let x1379 := !(decide (x1377 = x1378))
            bif x1379 then
              k0 false
            else
              let x1380 := (IntKind.i64.wrap (v1374 + (1 : Int)))
              next v1372 v1373 x1380
          | none => none
      | none => none
  else
    k1
noncomputable def laws_eqIntS_L0.b {α : Type} (N n : Nat) (v1372 : List Int) (v1373 : List Int) (v1374 : Int) (k0 : Bool → Option α) (k1 : Option α) : Option α :=
  Nat.rec (motive := fun _ => List Int → List Int → Int → Option α) (fun _ _ _ => none) (fun _ next => laws_eqIntS_L0r N next k0 k1) n v1372 v1373 v1374
theorem laws_eqIntS_L0.ex : ∃ f : ((α : Type) → Nat → Nat → List Int → List Int → Int → (Bool → Option α) → (Option α) → Option α), f = fun α => @laws_eqIntS_L0.b α := ⟨_, rfl⟩
noncomputable def laws_eqIntS_L0 {α : Type} : Nat → Nat → List Int → List Int → Int → (Bool → Option α) → (Option α) → Option α := Classical.choose laws_eqIntS_L0.ex α
theorem laws_eqIntS_L0.eq : @laws_eqIntS_L0 = @laws_eqIntS_L0.b := funext fun α => congrFun (Classical.choose_spec laws_eqIntS_L0.ex) α
theorem laws_eqIntS_L0.zero {α : Type} (N : Nat) (v1372 : List Int) (v1373 : List Int) (v1374 : Int) (k0 : Bool → Option α) (k1 : Option α) : laws_eqIntS_L0 N 0 v1372 v1373 v1374 k0 k1 = none := by rw [laws_eqIntS_L0.eq]; rfl
theorem laws_eqIntS_L0.succ {α : Type} (N n : Nat) (v1372 : List Int) (v1373 : List Int) (v1374 : Int) (k0 : Bool → Option α) (k1 : Option α) : laws_eqIntS_L0 N (n + 1) v1372 v1373 v1374 k0 k1 = laws_eqIntS_L0r N (fun y0 y1 y2 => laws_eqIntS_L0 N n y0 y1 y2 k0 k1) k0 k1 v1372 v1373 v1374 := by rw [laws_eqIntS_L0.eq]; rfl
/-- loop.example/pinfold/laws.eqIntS -/
noncomputable def laws_eqIntS.b {α : Type} (N : Nat) (a1367 : List Int) (a1368 : List Int) (k0 : Bool → Option α) : Option α :=
  let x1369 := ((a1367.length : Nat) : Int)
  let x1370 := ((a1368.length : Nat) : Int)
  let x1371 := !(decide (x1369 = x1370))
  bif x1371 then
    k0 false
  else
    laws_eqIntS_L0 N N a1367 a1368 (0 : Int)
      (fun x1381 =>
        k0 x1381)
      (
        k0 true)
theorem laws_eqIntS.ex : ∃ f : ((α : Type) → Nat → List Int → List Int → (Bool → Option α) → Option α), f = fun α => @laws_eqIntS.b α := ⟨_, rfl⟩
noncomputable def laws_eqIntS {α : Type} : Nat → List Int → List Int → (Bool → Option α) → Option α := Classical.choose laws_eqIntS.ex α
theorem laws_eqIntS.eq : @laws_eqIntS = @laws_eqIntS.b := funext fun α => congrFun (Classical.choose_spec laws_eqIntS.ex) α

/-- loop.example/pinfold/laws.eqFrac -/
noncomputable def laws_eqFrac.b {α : Type} (N : Nat) (a1364 : Bool × (List Int) × (List Int) × Unit) (a1365 : Bool × (List Int) × (List Int) × Unit) (k0 : Bool → Option α) : Option α :=
  let x1366 := !(a1364.1 == a1365.1)
  bif x1366 then
    k0 false
  else
    laws_eqIntS N a1364.2.1 a1365.2.1
      (fun x1382 =>
        let x1383 := !x1382
        bif x1383 then
          k0 false
        else
          laws_eqIntS N a1364.2.2.1 a1365.2.2.1
            (fun x1384 =>
              let x1385 := !x1384
              bif x1385 then
                k0 false
              else
                k0 true))
theorem laws_eqFrac.ex : ∃ f : ((α : Type) → Nat → (Bool × (List Int) × (List Int) × Unit) → (Bool × (List Int) × (List Int) × Unit) → (Bool → Option α) → Option α), f = fun α => @laws_eqFrac.b α := ⟨_, rfl⟩
noncomputable def laws_eqFrac {α : Type} : Nat → (Bool × (List Int) × (List Int) × Unit) → (Bool × (List Int) × (List Int) × Unit) → (Bool → Option α) → Option α := Classical.choose laws_eqFrac.ex α
theorem laws_eqFrac.eq : @laws_eqFrac = @laws_eqFrac.b := funext fun α => congrFun (Classical.choose_spec laws_eqFrac.ex) α

/-- loop.example/pinfold/laws.FnExactFloatUp -/
noncomputable def laws_FnExactFloatUp.b {α : Type} (N : Nat) (a1 : Int) (a2 : Bool × (List Int) × (List Int) × Unit) (k0 : Bool → Option α) : Option α :=
  laws_szFrac N a2 (1048576 : Int)
    (fun x14 =>
      let x15 := (decide (x14 < (0 : Int)))
      bif x15 then
        k0 true
      else
        laws_toFrac N a2
          (fun x32 x33 x34 =>
            spec_FloatUp N a1 (x32, (x33, (x34, ())))
              (fun x587 x588 =>
                laws_toFrac N a2
                  (fun x589 x590 x591 =>
                    impl_FloatUp N a1 (x589, (x590, (x591, ())))
                      (fun x1357 x1358 =>
                        let x1359 := !(decide (x1357 = x587))
                        bif x1359 then
                          k0 false
                        else
                          let x1360 := !(x1358 == x588)
                          bif x1360 then
                            k0 false
                          else
                            laws_toFrac N a2
                              (fun x1361 x1362 x1363 =>
                                laws_eqFrac N (x589, (x590, (x591, ()))) (x1361, (x1362, (x1363, ())))
                                  (fun x1386 =>
                                    let x1387 := !x1386
                                    bif x1387 then
                                      k0 false
                                    else
                                      k0 true)))))))
theorem laws_FnExactFloatUp.ex : ∃ f : ((α : Type) → Nat → Int → (Bool × (List Int) × (List Int) × Unit) → (Bool → Option α) → Option α), f = fun α => @laws_FnExactFloatUp.b α := ⟨_, rfl⟩
noncomputable def laws_FnExactFloatUp {α : Type} : Nat → Int → (Bool × (List Int) × (List Int) × Unit) → (Bool → Option α) → Option α := Classical.choose laws_FnExactFloatUp.ex α
theorem laws_FnExactFloatUp.eq : @laws_FnExactFloatUp = @laws_FnExactFloatUp.b := funext fun α => congrFun (Classical.choose_spec laws_FnExactFloatUp.ex) α

end
end Go.Proofs.YtlbihmicbncdiaaDoorAm
